import Derived.Test.YtibpbbjlecohiaaVc8
namespace Go.Vc
variable {P : Program} {T : Tab} {F : List Nat}

/-! ## functions that range over functions: ms: the blocks that their marks name -/
inductive AnnM where
  | leaf (a : Ann) | seq (a b : AnnM) | join (vs : List (Nat × Sh)) (a b : AnnM) | cond (a b : AnnM) | block (a : AnnM) | loop (vs : List (Nat × Sh)) (a : AnnM) | range (ids exits : List Nat)
abbrev MP := List Nat → Prop
def noMP : MP := fun _ => False
def onEndM (Q : Exit → Env → List Nat → World → Prop) (C : Env → List Nat → World → Prop) : Exit → Env → List Nat → World → Prop
  | .normal, env, ms, w => C env ms w
  | e, env, ms, w => Q e env ms w
def onExitM (id : Nat) (Q : Exit → Env → List Nat → World → Prop) : Exit → Env → List Nat → World → Prop
  | .exit i, env, ms, w => bif Nat.beq i id then Q .normal env ms w else Q (.exit i) env ms w
  | e, env, ms, w => Q e env ms w
/-- behind the iterator: the record is there and not busy; the pending jump -/
def lkX : List (Nat × (World → Prop)) → Nat → Option (World → Prop)
  | [], _ => none
  | p :: r, j => bif Nat.beq p.1 j then some p.2 else lkX r j
theorem lkX_map {f : Nat → World → Prop} : ∀ {xs : List Nat} {i : Nat} {C : World → Prop}, lkX (xs.map fun j => (j, f j)) i = some C → C = f i
  | [], _, _, h => by cases h
  | x :: xs, i, C, h => by
    simp only [List.map_cons, lkX] at h
    by_cases e : x = i
    · subst e; simp at h; exact h.symm
    · rw [nbeq e] at h; exact lkX_map h
def afterQ (l : Nat) (Qn Qr : World → Prop) (xs : List (Nat × (World → Prop))) (w : World) : Prop := ∃ rc : Loop, w.heap[l]? = some (.loop rc) ∧ rc.state ≠ .busy ∧ match rc.pending with
  | none => Qn (w.putObj l (.loop { rc with state := .exhausted }))
  | some .ret => Qr (w.putObj l (.loop { rc with state := .exhausted }))
  | some (.exit id) => ∃ C, lkX xs id = some C ∧ C (w.putObj l (.loop { rc with state := .exhausted }))
  | _ => False
theorem afterQ_none {l : Nat} {Qn Qr : World → Prop} {xs : List (Nat × (World → Prop))} {w : World} {rc : Loop} (hl : w.heap[l]? = some (.loop rc)) (hs : rc.state ≠ .busy) (hp : rc.pending = none) (h : Qn (w.putObj l (.loop { rc with state := .exhausted }))) : afterQ l Qn Qr xs w :=
  ⟨rc, hl, hs, by rw [hp]; rw [hp] at h; exact h⟩
theorem afterQ_ret {l : Nat} {Qn Qr : World → Prop} {xs : List (Nat × (World → Prop))} {w : World} {rc : Loop} (hl : w.heap[l]? = some (.loop rc)) (hs : rc.state ≠ .busy) (hp : rc.pending = some .ret) (h : Qr (w.putObj l (.loop { rc with state := .exhausted }))) : afterQ l Qn Qr xs w :=
  ⟨rc, hl, hs, by rw [hp]; rw [hp] at h; exact h⟩
theorem afterQ_exit {l id : Nat} {Qn Qr C : World → Prop} {xs : List (Nat × (World → Prop))} {w : World} {rc : Loop} (hl : w.heap[l]? = some (.loop rc)) (hs : rc.state ≠ .busy) (hp : rc.pending = some (.exit id)) (hx : lkX xs id = some C) (h : C (w.putObj l (.loop { rc with state := .exhausted }))) : afterQ l Qn Qr xs w :=
  ⟨rc, hl, hs, by rw [hp]; rw [hp] at h; exact ⟨C, hx, h⟩⟩
def pickE (env : Env) : List Nat → Env
  | [] => []
  | i :: r => match lk env i with
    | some v => (i, v) :: pickE env r
    | none => pickE env r
theorem lk_pickE {env : Env} : ∀ {ids : List Nat} {i : Nat} {v : Value}, lk (pickE env ids) i = some v → lk env i = some v
  | [], i, v, h => by simp [pickE, lk] at h
  | j :: r, i, v, h => by
    simp only [pickE] at h
    split at h
    · rename_i u hu
      simp only [lk] at h
      by_cases e : j = i
      · subst e; simp at h; rw [hu, h]
      · rw [nbeq e] at h; exact lk_pickE h
    · exact lk_pickE h
/-- the loops over functions that code holds, each with what it assigns and its body -/
def rangesOf : Code → List (Code × Code)
  | .seq a b => rangesOf a ++ rangesOf b
  | .cond _ a b => rangesOf a ++ rangesOf b
  | .block _ a => rangesOf a
  | .loop a => rangesOf a
  | .scope a => rangesOf a
  | .rangeFunc _ _ a b => [(a, b)]
  | _ => []
def nthC (l : List (Code × Code)) (i : Nat) : Code × Code := match l, i with
  | [], _ => (.skip, .skip)
  | x :: _, 0 => x
  | _ :: r, i + 1 => nthC r i
def rangeA (f : Func) (i : Nat) : Code := (nthC (rangesOf (f.body.getD .skip)) i).1
def rangeB (f : Func) (i : Nat) : Code := (nthC (rangesOf (f.body.getD .skip)) i).2
def marksOk (ms : List Nat) (w : World) : Prop := ms.Nodup ∧ ∀ r ∈ ms, w.heap[r]? = some (.deferred (some []))
def vcM (P : Program) (T : Tab) (F : List Nat) (n : Nat) : Code → AnnM → Env → List Nat → World → (Exit → Env → List Nat → World → Prop) → Prop
  | c, .leaf a, env, ms, w, Q => vc P T F n c a env w fun e env' w' => Q e env' ms w'
  | .seq a b, .seq x y, env, ms, w, Q => vcM P T F n a x env ms w (onEndM Q fun env' ms' w' => vcM P T F n b y env' ms' w' Q)
  | .seq a b, .join vs x y, env, ms, w, Q => ∃ J : CT MP (kindsOf vs),
      (allK (kindsOf vs) fun l => ∀ ms' w', apT noMP (kindsOf vs) J l w' ms' → vcM P T F n b y (packs vs l ++ dropE (writes a) env) ms' w' Q) ∧
      vcM P T F n a x env ms w (onEndM Q fun env' ms' w' => match flats env' vs with
        | some l => apT noMP (kindsOf vs) J l w' ms'
        | none => False)
  | .cond c a b, .cond x y, env, ms, w, Q => match opv env c with
    | some (.bool t) => bcase t (vcM P T F n a x env ms w Q) (vcM P T F n b y env ms w Q)
    | _ => False
  | .block id a, .block x, env, ms, w, Q => vcM P T F n a x env ms w (onExitM id Q)
  | .loop a, .loop vs x, env, ms, w, Q => match flats env vs with
    | none => False
    | some l0 => ∃ (I : CT MP (kindsOf vs)) (μ : CT Nat (kindsOf vs)), apT noMP (kindsOf vs) I l0 w ms ∧
      allK (kindsOf vs) fun l => ∀ ms' w', apT noMP (kindsOf vs) I l w' ms' → vcM P T F n a x (packs vs l ++ dropE (writes a) env) ms' w' (onEndM Q fun env'' ms'' w'' => match flats env'' vs with
        | some l' => apT noMP (kindsOf vs) I l' w'' ms'' ∧ apT 0 (kindsOf vs) μ l' w'' < apT 0 (kindsOf vs) μ l w'
        | none => False)
  | .rangeFunc g ps assign body, .range ids xs, env, ms, w, Q => match opv env g with
    | some v => ∃ (gf : Nat) (first captured : Array Value), v = .func (.func gf) first captured ∧ F.elem gf = true ∧
        ∀ rc : Loop, Laid n (pickE env ids) ps assign body rc → ∀ w1, w1 = (w.alloc (.deferred (some []))).alloc (.loop rc) →
          Calls P gf (first.toList ++ [Value.func (.yield (w.heap.size + 1)) #[] #[]] ++ captured.toList).toArray w1 fun e w2 => ∃ v, e = .returned v ∧
            afterQ (w.heap.size + 1) (Q .normal env (w.heap.size :: ms)) (Q .ret env (w.heap.size :: ms)) (xs.map fun id => (id, Q (.exit id) env (w.heap.size :: ms))) w2
    | none => False
  | _, _, _, _, _, _ => False

def mkMark (r : Nat) : Deferred := { target := .collected r, args := #[] }
def FrM (W : List Nat) (a0 a : Act) : Prop := ∀ i, i ∉ W → a.tmps[i]? = a0.tmps[i]?
def liftQM (n : Nat) (W : List Nat) (a0 : Act) (Q : Exit → Env → List Nat → World → Prop) (e : Exit) (a : Act) (w : World) : Prop :=
  exOk e ∧ ∃ env ms, Sat n env a ∧ a.defers = ms.map mkMark ∧ FrM W a0 a ∧ Q e env ms w
theorem FrM.trans {W W1 W2 : List Nat} {a b c : Act} (h1 : FrM W1 a b) (h2 : FrM W2 b c) (i1 : ∀ d ∈ W1, d ∈ W) (i2 : ∀ d ∈ W2, d ∈ W) : FrM W a c := fun i hi => by
  rw [h2 i (fun h => hi (i2 i h)), h1 i (fun h => hi (i1 i h))]
theorem FrM.refl (W : List Nat) (a : Act) : FrM W a a := fun _ _ => rfl
theorem sat_joinM {n : Nat} {env env' : Env} {a a' : Act} {ws : List Nat} {vs : List (Nat × Sh)} {l : List Value} (hs : Sat n env a) (hs' : Sat n env' a') (hf : FrM ws a a') (hl : flats env' vs = some l) :
    Sat n (packs vs l ++ dropE ws env) a' := by
  refine ⟨hs'.size, fun i v hi => ?_⟩
  rw [lk_append] at hi
  split at hi
  · rename_i u hu
    cases hi
    exact hs'.get i _ (packs_lk hl hu)
  · obtain ⟨h1, h2⟩ := lk_dropE hi
    rw [hf i h1]
    exact hs.get i v h2
theorem allK_apTM {w : World} {ms : List Nat} : ∀ {ks : List Kd} {I : CT MP ks} {vs : List Value} {C : List Value → Prop}, allK ks C → apT noMP ks I vs w ms → C vs
  | [], I, [], C, h, _ => h
  | [], I, _ :: _, C, _, h' => by simp [apT, noMP] at h'
  | .int k :: r, I, [], C, _, h' => by simp [apT, noMP] at h'
  | .int k :: r, I, v :: vs, C, h, h' => by
    cases v with
    | int k' n =>
      simp only [apT] at h'
      by_cases e : k = k'
      · subst e
        simp only [decide_true, cond_true] at h'
        exact allK_apTM (I := I n) (C := fun vs => C (.int k n :: vs)) (h n) h'
      · simp [e, noMP] at h'
    | _ => simp [apT, noMP] at h'
  | .bool :: r, I, [], C, _, h' => by simp [apT, noMP] at h'
  | .bool :: r, I, v :: vs, C, h, h' => by
    cases v with
    | bool b => exact allK_apTM (w := w) (I := I b) (C := fun vs => C (.bool b :: vs)) (h b) h'
    | _ => simp [apT, noMP] at h'
  | .str :: r, I, [], C, _, h' => by simp [apT, noMP] at h'
  | .str :: r, I, v :: vs, C, h, h' => by
    cases v with
    | string b => exact allK_apTM (w := w) (I := I b) (C := fun vs => C (.string b :: vs)) (h b) h'
    | _ => simp [apT, noMP] at h'
  | .ptr :: r, I, [], C, _, h' => by simp [apT, noMP] at h'
  | .ptr :: r, I, v :: vs, C, h, h' => by
    cases v with
    | pointer b => exact allK_apTM (w := w) (I := I b) (C := fun vs => C (.pointer b :: vs)) (h b) h'
    | _ => simp [apT, noMP] at h'
  | .sl :: r, I, [], C, _, h' => by simp [apT, noMP] at h'
  | .sl :: r, I, v :: vs, C, h, h' => by
    cases v with
    | slice p n c => exact allK_apTM (w := w) (I := I p n c) (C := fun vs => C (.slice p n c :: vs)) (h p n c) h'
    | _ => simp [apT, noMP] at h'
  | .map :: r, I, [], C, _, h' => by simp [apT, noMP] at h'
  | .map :: r, I, v :: vs, C, h, h' => by
    cases v with
    | map b => exact allK_apTM (w := w) (I := I b) (C := fun vs => C (.map b :: vs)) (h b) h'
    | _ => simp [apT, noMP] at h'
  | .any :: r, I, [], C, _, h' => by simp [apT, noMP] at h'
  | .any :: r, I, v :: vs, C, h, h' => allK_apTM (w := w) (I := I v) (C := fun vs => C (v :: vs)) (h v) (by cases v <;> exact h')
  | .fn _ :: r, I, [], C, _, h' => by simp [apT, noMP] at h'
  | .fn _ :: r, I, v :: vs, C, h, h' => allK_apTM (w := w) (I := I v) (C := fun vs => C (v :: vs)) (h v) (by cases v <;> exact h')

theorem vcM_leaf (hT : TabOk P T) (hF : FOk P F) (hm : P.follows .mixedOrders = true) {n : Nat} (c : Code) (x : Ann) (env : Env) (ms : List Nat) (w : World) (a : Act) (Q : Exit → Env → List Nat → World → Prop)
    (hs : Sat n env a) (hd : a.defers = ms.map mkMark) (h : vc P T F n c x env w fun e env' w' => Q e env' ms w') : c.wp P (liftQM n (writes c) a Q) a w :=
  wp_mono (vc_sound hT hF hm c x env w a _ hs h) fun _ _ _ ⟨hok, env', hs', hf', hq⟩ => ⟨hok, env', ms, hs', hf'.defers.trans hd, hf'.same, hq⟩
theorem vcM_sound (hT : TabOk P T) (hF : FOk P F) (hm : P.follows .mixedOrders = true) {n : Nat} : ∀ (c : Code) (ann : AnnM) (env : Env) (ms : List Nat) (w : World) (a : Act) (Q : Exit → Env → List Nat → World → Prop),
    Sat n env a → a.defers = ms.map mkMark → vcM P T F n c ann env ms w Q → c.wp P (liftQM n (writes c) a Q) a w
  | .seq x y, ann, env, ms, w, a, Q, hs, hd, h => by
    cases ann with
    | leaf x0 => exact vcM_leaf hT hF hm _ x0 env ms w a Q hs hd h
    | seq ax ay =>
      refine wp_seq (wp_mono (vcM_sound hT hF hm x ax env ms w a _ hs hd h) fun e a' w' ⟨hok, env', ms', hs', hd', hf', hq⟩ => ?_)
      cases e with
      | normal =>
        refine wp_mono (vcM_sound hT hF hm y ay env' ms' w' a' Q hs' hd' hq) fun e2 a2 w2 ⟨hok2, env2, ms2, hs2, hd2, hf2, hq2⟩ => ⟨hok2, env2, ms2, hs2, hd2, ?_, hq2⟩
        exact hf'.trans hf2 (fun d hd => by simp [writes, hd]) (fun d hd => by simp [writes, hd])
      | panic c => exact hok.elim
      | outgrown => exact hok.elim
      | _ => exact ⟨trivial, env', ms', hs', hd', hf'.trans (FrM.refl (writes y) _) (fun d hd => by simp [writes, hd]) (fun d hd => by simp [writes, hd]), hq⟩
    | join vs ax ay =>
      obtain ⟨J, hJ, h⟩ := h
      refine wp_seq (wp_mono (vcM_sound hT hF hm x ax env ms w a _ hs hd h) fun e a' w' ⟨hok, env', ms', hs', hd', hf', hq⟩ => ?_)
      cases e with
      | normal =>
        simp only [onEndM] at hq
        split at hq
        · rename_i l hl
          have hs2 := sat_joinM hs hs' hf' hl
          have := allK_apTM hJ hq ms' w' hq
          refine wp_mono (vcM_sound hT hF hm y ay _ ms' w' a' Q hs2 hd' this) fun e2 a2 w2 ⟨hok2, env2, ms2, hs2, hd2, hf2, hq2⟩ => ⟨hok2, env2, ms2, hs2, hd2, ?_, hq2⟩
          exact hf'.trans hf2 (fun d hd => by simp [writes, hd]) (fun d hd => by simp [writes, hd])
        · exact hq.elim
      | panic c => exact hok.elim
      | outgrown => exact hok.elim
      | _ => exact ⟨trivial, env', ms', hs', hd', hf'.trans (FrM.refl (writes y) _) (fun d hd => by simp [writes, hd]) (fun d hd => by simp [writes, hd]), hq⟩
    | _ => exact h.elim
  | .cond c x y, ann, env, ms, w, a, Q, hs, hd, h => by
    cases ann with
    | leaf x0 => exact vcM_leaf hT hF hm _ x0 env ms w a Q hs hd h
    | cond ax ay =>
      simp only [vcM] at h
      split at h
      · rename_i t ht
        refine wp_cond_split (hs.eval ht) (fun e => ?_) (fun e => ?_)
        · subst e
          exact wp_mono (vcM_sound hT hF hm x ax env ms w a Q hs hd h) fun e2 a2 w2 ⟨hok2, env2, ms2, hs2, hd2, hf2, hq2⟩ => ⟨hok2, env2, ms2, hs2, hd2, hf2.trans (FrM.refl (writes y) _) (fun d hd => by simp [writes, hd]) (fun d hd => by simp [writes, hd]), hq2⟩
        · subst e
          exact wp_mono (vcM_sound hT hF hm y ay env ms w a Q hs hd h) fun e2 a2 w2 ⟨hok2, env2, ms2, hs2, hd2, hf2, hq2⟩ => ⟨hok2, env2, ms2, hs2, hd2, hf2.trans (FrM.refl (writes x) _) (fun d hd => by simp [writes, hd]) (fun d hd => by simp [writes, hd]), hq2⟩
      · exact h.elim
    | _ => exact h.elim
  | .block id x, ann, env, ms, w, a, Q, hs, hd, h => by
    cases ann with
    | leaf x0 => exact vcM_leaf hT hF hm _ x0 env ms w a Q hs hd h
    | block ax =>
      refine wp_block (wp_mono (vcM_sound hT hF hm x ax env ms w a _ hs hd h) fun e a' w' ⟨hok, env', ms', hs', hd', hf', hq⟩ => ?_)
      cases e with
      | exit i =>
        simp only [onExitM] at hq
        by_cases e : i = id
        · subst e
          simp at hq
          simp only [Exit.inBlock, if_true]
          exact ⟨trivial, env', ms', hs', hd', hf', hq⟩
        · rw [nbeq e] at hq
          simp only [Exit.inBlock, e, if_false]
          exact ⟨trivial, env', ms', hs', hd', hf', hq⟩
      | panic c => exact hok.elim
      | outgrown => exact hok.elim
      | _ => exact ⟨trivial, env', ms', hs', hd', hf', hq⟩
    | _ => exact h.elim
  | .loop x, ann, env, ms, w, a, Q, hs, hd, h => by
    cases ann with
    | leaf x0 => exact vcM_leaf hT hF hm _ x0 env ms w a Q hs hd h
    | loop vs ax =>
      simp only [vcM] at h
      split at h
      · exact h.elim
      · rename_i l0 hl0
        obtain ⟨I, μ, h0, hround⟩ := h
        refine wp_loop (fun a' w' => ∃ env' l ms', Sat n env' a' ∧ a'.defers = ms'.map mkMark ∧ flats env' vs = some l ∧ FrM (writes x) a a' ∧ apT noMP (kindsOf vs) I l w' ms')
          (fun a' w' => match flatsA a' vs with | some l => apT 0 (kindsOf vs) μ l w' | none => 0) ⟨env, l0, ms, hs, hd, hl0, FrM.refl _ _, h0⟩ ?_
        rintro a1 w1 ⟨env1, l1, ms1, hs1, hd1, hl1, hf1, hI⟩
        have hs2 := sat_joinM hs hs1 hf1 hl1
        have hb := allK_apTM hround hI ms1 w1 hI
        refine wp_mono (vcM_sound hT hF hm x ax _ ms1 w1 a1 _ hs2 hd1 hb) fun e a' w' ⟨hok, env', ms', hs', hd', hf', hq⟩ => ?_
        have hf2 : FrM (writes x) a a' := hf1.trans hf' (fun d hd => hd) (fun d hd => hd)
        cases e with
        | normal =>
          simp only [onEndM] at hq
          split at hq
          · rename_i l' hl'
            exact ⟨⟨env', l', ms', hs', hd', hl', hf2, hq.1⟩, by rw [flatsA_eq hs' hl', flatsA_eq hs1 hl1]; exact hq.2⟩
          · exact hq.elim
        | panic c => exact hok.elim
        | outgrown => exact hok.elim
        | _ => exact ⟨trivial, env', ms', hs', hd', hf2, hq⟩
    | _ => exact h.elim
  | .rangeFunc g ps assign body, ann, env, ms, w, a, Q, hs, hd, h => by
    cases ann with
    | leaf x0 => exact vcM_leaf hT hF hm _ x0 env ms w a Q hs hd h
    | range ids xs =>
      simp only [vcM] at h
      split at h
      · rename_i v0 hg
        obtain ⟨gf, first, captured, rfl, hc, h⟩ := h
        · obtain ⟨fn, h1, h2, h3⟩ := (hF gf (by simpa using hc)).h
          refine (wpIn_wide (n := 0)).1 (wpIn_rangeFunc fun fn' _ => ?_)
          obtain ⟨W1, hW1⟩ : ∃ W1, W1 = (w.alloc (.deferred (some []))).alloc (.loop { state := .ready, pending := none, fn := fn', tmps := a.tmps, params := ps, assign, body, defers := w.heap.size }) := ⟨_, rfl⟩
          have hcall := h { state := .ready, pending := none, fn := fn', tmps := a.tmps, params := ps, assign, body, defers := w.heap.size } ⟨rfl, rfl, rfl, rfl, rfl, hs.size, fun i v hi => hs.get i v (lk_pickE hi)⟩ W1 hW1
          have e2 : first ++ #[Value.func (.yield (w.heap.size + 1)) #[] #[]] ++ captured = (first.toList ++ [Value.func (.yield (w.heap.size + 1)) #[] #[]] ++ captured.toList).toArray := by
            apply Array.toList_inj.1; simp
          refine ⟨w.heap.size + 1, [{ target := .collected w.heap.size, args := #[] }], W1,
            { target := .fn (.func gf) captured, args := first ++ #[Value.func (.yield (w.heap.size + 1)) #[] #[]] }, W1, gf, (first.toList ++ [Value.func (.yield (w.heap.size + 1)) #[] #[]] ++ captured.toList).toArray, W1, ?_, ?_, fun _ _ => trivial, ?_, fun h => (by cases h), ?_⟩
          · rw [hW1]; exact run_enterLoop_outer _ _ _ _ _
          · simp only [resolve, Deferred.ofValue, hs.eval hg, Sem.run_pure]
            simp [Act.eval]
          · simp only [invoke, callFunc, run_program, Sem.run_bind, Result.andThen_ok, h1, h3, h2, e2]
            simp
          · refine (callsIn_wide (n := 0 - 1)).2 (Calls.mono hcall fun e w2 he => ?_)
            obtain ⟨v, rfl, rc, hl, hb, hp⟩ := he
            refine ⟨rc.pending, _, run_endLoop hl hb, ?_⟩
            generalize w2.putObj (w.heap.size + 1) (.loop { rc with state := .exhausted }) = w3 at hp ⊢
            have fin : ∀ e, exOk e → ∀ w3, Q e env (w.heap.size :: ms) w3 → liftQM n (writes (.rangeFunc g ps assign body)) a Q e { a with defers := [{ target := .collected w.heap.size, args := #[] }] ++ a.defers } w3 := fun e he w3 hq =>
              ⟨he, env, _, ⟨hs.size, hs.get⟩, by rw [hd]; rfl, fun _ _ => rfl, hq⟩
            split at hp
            · rename_i e; rw [e]; exact fin .normal trivial _ hp
            · rename_i e; rw [e]; exact wpIn_ret (fin .ret trivial _ hp)
            · rename_i id e; rw [e]; obtain ⟨C, hC, hp⟩ := hp; rw [lkX_map hC] at hp; exact wpIn_exit (fin (.exit id) trivial _ hp)
            · exact hp.elim
      · exact h.elim
    | _ => exact h.elim
  | .skip, ann, env, ms, w, a, Q, hs, hd, h => by
    cases ann with
    | leaf x0 => exact vcM_leaf hT hF hm _ x0 env ms w a Q hs hd h
    | _ => exact h.elim
  | .label _, ann, env, ms, w, a, Q, hs, hd, h => by
    cases ann with
    | leaf x0 => exact vcM_leaf hT hF hm _ x0 env ms w a Q hs hd h
    | _ => exact h.elim
  | .ret, ann, env, ms, w, a, Q, hs, hd, h => by
    cases ann with
    | leaf x0 => exact vcM_leaf hT hF hm _ x0 env ms w a Q hs hd h
    | _ => exact h.elim
  | .exit _, ann, env, ms, w, a, Q, hs, hd, h => by
    cases ann with
    | leaf x0 => exact vcM_leaf hT hF hm _ x0 env ms w a Q hs hd h
    | _ => exact h.elim
  | .region _ _ _, ann, env, ms, w, a, Q, hs, hd, h => by
    cases ann with
    | leaf x0 => exact vcM_leaf hT hF hm _ x0 env ms w a Q hs hd h
    | _ => exact h.elim
  | .scope _, ann, env, ms, w, a, Q, hs, hd, h => by
    cases ann with
    | leaf x0 => exact vcM_leaf hT hF hm _ x0 env ms w a Q hs hd h
    | _ => exact h.elim
  | .goto _, ann, env, ms, w, a, Q, hs, hd, h => by
    cases ann with
    | leaf x0 => exact vcM_leaf hT hF hm _ x0 env ms w a Q hs hd h
    | _ => exact h.elim
  | .refuse _, ann, env, ms, w, a, Q, hs, hd, h => by
    cases ann with
    | leaf x0 => exact vcM_leaf hT hF hm _ x0 env ms w a Q hs hd h
    | _ => exact h.elim

def takeAll : List Nat → World → World
  | [], w => w
  | r :: rs, w => takeAll rs (w.putObj r (.deferred none))
def retQM (T : Tab) (rs : List ResultVar) (R : Value → World → Prop) : Exit → Env → List Nat → World → Prop
  | .normal, env, ms, w => marksOk ms w ∧ resL T env (takeAll ms w) rs fun vs => R (tupV vs) (takeAll ms w)
  | .ret, env, ms, w => marksOk ms w ∧ resL T env (takeAll ms w) rs fun vs => R (tupV vs) (takeAll ms w)
  | _, _, _, _ => False
theorem leaves_marks {fn : Func} {tmps : Array Value} {R : Ending → World → Prop} : ∀ (ms : List Nat) (w : World), ms.Nodup → (∀ r ∈ ms, w.heap[r]? = some (.deferred (some []))) →
    (∃ v, (results fn tmps).run P (takeAll ms w) = .ok v (takeAll ms w) ∧ R (.returned v) (takeAll ms w)) → LeavesInM Fence.wide 0 P fn tmps R (ms.map mkMark) .returning w
  | [], w, _, _, h => h
  | r :: rs, w, hn, hk, h => by
    refine ⟨by simp, .inl ⟨r, _, rfl, run_takeDeferred (hk r (by simp)), leaves_marks rs _ (List.nodup_cons.1 hn).2 (fun k hk' => ?_) h⟩⟩
    rw [World.putObj_heap_other (show k ≠ r from fun e => (List.nodup_cons.1 hn).1 (by rw [← e]; exact hk'))]
    exact hk k (by simp [hk'])
theorem calls_of_vcM (hT : TabOk P T) (hF : FOk P F) (hm : P.follows .mixedOrders = true) {f : Nat} {fn : Func} {c : Code} (hf : P.funcs[f]? = some fn) (hb : fn.body = some c) {vs : List Value} {n : Nat} (hn : (Nat.ble vs.length n && Nat.beq n fn.ntmps) = true)
    {w : World} {R : Value → World → Prop} {ann : AnnM} (h : vcM P T F n c ann (argE 0 vs) [] w (retQM T fn.results.toList R)) : Calls P f vs.toArray w (Ret R) := by
  refine (callsIn_wide (n := 0)).1 (callsIn_of_wp_marks hf hb trivial ((wpIn_wide (n := 0)).2 ?_))
  refine wp_mono (vcM_sound hT hF hm c ann _ [] w _ _ (sat_enter hn) rfl h) fun e a w' ⟨hok, env, ms, hs, hd, hfr, hq⟩ => ?_
  cases e with
  | normal =>
    obtain ⟨⟨h1, h2⟩, hq⟩ := hq
    show LeavesInM _ _ _ _ _ _ a.defers _ _
    rw [hd]
    exact leaves_marks ms w' h1 h2 (ret_fin hT hs hq)
  | ret =>
    obtain ⟨⟨h1, h2⟩, hq⟩ := hq
    show LeavesInM _ _ _ _ _ _ a.defers _ _
    rw [hd]
    exact leaves_marks ms w' h1 h2 (ret_fin hT hs hq)
  | panic c => exact hok.elim
  | outgrown => exact hok.elim
  | exit i => exact hq.elim
  | goto l => exact hq.elim
end Go.Vc
