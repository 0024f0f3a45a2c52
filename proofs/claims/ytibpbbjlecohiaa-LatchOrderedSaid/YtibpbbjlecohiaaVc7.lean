import Derived.Test.YtibpbbjlecohiaaVc6
namespace Go.Vc
variable {P : Program} {T : Tab} {F : List Nat}

theorem lk_append : ∀ (A B : Env) (i : Nat), lk (A ++ B) i = match lk A i with | some v => some v | none => lk B i
  | [], B, i => rfl
  | p :: r, B, i => by
    simp only [List.cons_append, lk]
    cases Nat.beq p.1 i
    · simp only [cond_false]; exact lk_append r B i
    · rfl
theorem lk_dropE {ws : List Nat} : ∀ {env : Env} {i : Nat} {v : Value}, lk (dropE ws env) i = some v → i ∉ ws ∧ lk env i = some v
  | [], i, v, h => by simp [dropE, lk] at h
  | p :: r, i, v, h => by
    simp only [dropE] at h
    simp only [lk]
    cases hw : ws.elem p.1 with
    | true =>
      rw [hw] at h
      simp only [cond_true] at h
      obtain ⟨h1, h2⟩ := lk_dropE h
      have hp : p.1 ∈ ws := by simpa using hw
      have : p.1 ≠ i := fun e => h1 (e ▸ hp)
      rw [nbeq this]
      exact ⟨h1, h2⟩
    | false =>
      rw [hw] at h
      simp only [cond_false, lk] at h
      have hp : p.1 ∉ ws := by simpa using hw
      by_cases e : p.1 = i
      · subst e
        simp at h
        exact ⟨hp, by simp [h]⟩
      · rw [nbeq e] at h ⊢
        simp only [cond_false] at h ⊢
        exact lk_dropE h
theorem packs_lk {env : Env} : ∀ {vs : List (Nat × Sh)} {l : List Value}, flats env vs = some l → ∀ {i : Nat} {v : Value}, lk (packs vs l) i = some v → lk env i = some v
  | [], l, _, i, v, h => by simp [packs, lk] at h
  | (j, s) :: r, l, hf, i, v, h => by
    simp only [flats] at hf
    split at hf
    · rename_i u hu
      split at hf
      · rename_i l1 l2 h1 h2
        cases hf
        cases s with
        | one k =>
          simp only [flatV, Option.some.injEq] at h1
          subst h1
          simp only [List.cons_append, List.nil_append, packs, lk] at h
          by_cases e : j = i
          · subst e
            simp at h
            subst h; exact hu
          · rw [nbeq e] at h
            exact packs_lk h2 h
        | agg ks =>
          cases u with
          | agg cs =>
            simp only [flatV] at h1
            cases hb : Nat.beq cs.toList.length ks.length with
            | false => rw [hb] at h1; simp at h1
            | true =>
              rw [hb] at h1
              simp only [cond_true, Option.some.injEq] at h1
              subst h1
              have hl : cs.toList.length = ks.length := Nat.eq_of_beq_eq_true hb
              simp only [packs, lk, ← hl, List.take_left, List.drop_left] at h
              by_cases e : j = i
              · subst e
                simp at h
                subst h; exact hu
              · rw [nbeq e] at h
                exact packs_lk h2 h
          | _ => simp [flatV] at h1
        | tup l => cases u <;> simp [flatV] at h1
      · cases hf
    · cases hf
theorem sat_join {n : Nat} {env env' : Env} {a a' : Act} {ws : List Nat} {vs : List (Nat × Sh)} {l : List Value} (hs : Sat n env a) (hs' : Sat n env' a') (hf : Fr ws a a') (hl : flats env' vs = some l) :
    Sat n (packs vs l ++ dropE ws env) a' := by
  refine ⟨hs'.size, fun i v hi => ?_⟩
  rw [lk_append] at hi
  split at hi
  · rename_i u hu
    cases hi
    exact hs'.get i _ (packs_lk hl hu)
  · obtain ⟨h1, h2⟩ := lk_dropE hi
    rw [hf.same i h1]
    exact hs.get i v h2
def flatsA (a : Act) : List (Nat × Sh) → Option (List Value)
  | [] => some []
  | (i, s) :: r => match a.tmps[i]? with
    | some v => match flatV s v, flatsA a r with
      | some l, some l' => some (l ++ l')
      | _, _ => none
    | none => none
theorem flatsA_eq {n : Nat} {env : Env} {a : Act} (hs : Sat n env a) : ∀ {vs : List (Nat × Sh)} {l : List Value}, flats env vs = some l → flatsA a vs = some l
  | [], l, h => by simpa [flats, flatsA] using h
  | (i, s) :: r, l, h => by
    simp only [flats] at h
    split at h
    · rename_i u hu
      split at h
      · rename_i l1 l2 h1 h2
        cases h
        simp [flatsA, hs.get i u hu, h1, flatsA_eq hs h2]
      · cases h
    · cases h
theorem Fr.trans {W W1 W2 : List Nat} {a b c : Act} (h1 : Fr W1 a b) (h2 : Fr W2 b c) (i1 : ∀ d ∈ W1, d ∈ W) (i2 : ∀ d ∈ W2, d ∈ W) : Fr W a c := ⟨h2.defers.trans h1.defers, fun i hi => by
  rw [h2.same i (fun h => hi (i2 i h)), h1.same i (fun h => hi (i1 i h))]⟩

theorem vc_sound (hT : TabOk P T) (hF : FOk P F) (hm : P.follows .mixedOrders = true) {n : Nat} : ∀ (c : Code) (ann : Ann) (env : Env) (w : World) (a : Act) (Q : Exit → Env → World → Prop),
    Sat n env a → vc P T F n c ann env w Q → c.wp P (liftQ n (writes c) a Q) a w
  | .skip, ann, env, w, a, Q, hs, h => wp_skip ⟨trivial, env, hs, Fr.refl _ _, by cases ann <;> exact h⟩
  | .label _, ann, env, w, a, Q, hs, h => wp_label ⟨trivial, env, hs, Fr.refl _ _, by cases ann <;> exact h⟩
  | .ret, ann, env, w, a, Q, hs, h => wp_ret ⟨trivial, env, hs, Fr.refl _ _, by cases ann <;> exact h⟩
  | .exit id, ann, env, w, a, Q, hs, h => wp_exit ⟨trivial, env, hs, Fr.refl _ _, by cases ann <;> exact h⟩
  | .region id ops false, ann, env, w, a, Q, hs, h => by
    have h' : vcOps P T F n ops.toList ops.toList env w fun e w' => Q .normal e w' := by cases ann <;> exact h
    exact region_sound (ops := ops.toList) hT hF (W := writes (.region id ops false)) (a0 := a) (fun d hd => hd) (fun env a' w' hs' hf' hq => ⟨trivial, env, hs', hf', hq⟩) hs (Fr.refl _ _) h'
  | .region id ops true, ann, env, w, a, Q, hs, h => by
    cases ann with
    | draw m nh ord bag =>
      exact draw_sound (ops := ops.toList) hT hF hm (W := writes (.region id ops true)) (a0 := a) (fun d hd => hd) (fun c a w hq => hq.1) (fun env a' w' hs' hf' hq => ⟨trivial, env, hs', hf', hq⟩) hs (Fr.refl _ _) h
    | _ => exact h a hs
  | .seq x y, ann, env, w, a, Q, hs, h => by
    cases ann with
    | seq ax ay =>
      refine wp_seq (wp_mono (vc_sound hT hF hm x ax env w a _ hs h) fun e a' w' ⟨hok, env', hs', hf', hq⟩ => ?_)
      cases e with
      | normal =>
        refine wp_mono (vc_sound hT hF hm y ay env' w' a' Q hs' hq) fun e2 a2 w2 ⟨hok2, env2, hs2, hf2, hq2⟩ => ⟨hok2, env2, hs2, ?_, hq2⟩
        exact hf'.trans hf2 (fun d hd => by simp [writes, hd]) (fun d hd => by simp [writes, hd])
      | panic c => exact hok.elim
      | outgrown => exact hok.elim
      | _ => exact ⟨trivial, env', hs', hf'.trans (Fr.refl (writes y) _) (fun d hd => by simp [writes, hd]) (fun d hd => by simp [writes, hd]), hq⟩
    | join vs ax ay =>
      obtain ⟨J, hJ, h⟩ := h
      refine wp_seq (wp_mono (vc_sound hT hF hm x ax env w a _ hs h) fun e a' w' ⟨hok, env', hs', hf', hq⟩ => ?_)
      cases e with
      | normal =>
        simp only [onEnd] at hq
        split at hq
        · rename_i l hl
          have hs2 := sat_join hs hs' hf' hl
          have := allK_apT hJ hq w' hq
          refine wp_mono (vc_sound hT hF hm y ay _ w' a' Q hs2 this) fun e2 a2 w2 ⟨hok2, env2, hs2, hf2, hq2⟩ => ⟨hok2, env2, hs2, ?_, hq2⟩
          exact hf'.trans hf2 (fun d hd => by simp [writes, hd]) (fun d hd => by simp [writes, hd])
        · exact hq.elim
      | panic c => exact hok.elim
      | outgrown => exact hok.elim
      | _ => exact ⟨trivial, env', hs', hf'.trans (Fr.refl (writes y) _) (fun d hd => by simp [writes, hd]) (fun d hd => by simp [writes, hd]), hq⟩
    | _ => exact h a hs
  | .cond c x y, ann, env, w, a, Q, hs, h => by
    cases ann with
    | cond ax ay =>
      simp only [vc] at h
      split at h
      · rename_i t ht
        refine wp_cond_split (hs.eval ht) (fun e => ?_) (fun e => ?_)
        · subst e
          exact wp_mono (vc_sound hT hF hm x ax env w a Q hs h) fun e2 a2 w2 ⟨hok2, env2, hs2, hf2, hq2⟩ => ⟨hok2, env2, hs2, hf2.trans (Fr.refl (writes y) _) (fun d hd => by simp [writes, hd]) (fun d hd => by simp [writes, hd]), hq2⟩
        · subst e
          exact wp_mono (vc_sound hT hF hm y ay env w a Q hs h) fun e2 a2 w2 ⟨hok2, env2, hs2, hf2, hq2⟩ => ⟨hok2, env2, hs2, hf2.trans (Fr.refl (writes x) _) (fun d hd => by simp [writes, hd]) (fun d hd => by simp [writes, hd]), hq2⟩
      · exact h.elim
    | _ => exact h a hs
  | .block id x, ann, env, w, a, Q, hs, h => by
    cases ann with
    | block ax =>
      refine wp_block (wp_mono (vc_sound hT hF hm x ax env w a _ hs h) fun e a' w' ⟨hok, env', hs', hf', hq⟩ => ?_)
      cases e with
      | exit i =>
        simp only [onExit] at hq
        by_cases e : i = id
        · subst e
          simp at hq
          simp only [Exit.inBlock, if_true]
          exact ⟨trivial, env', hs', hf', hq⟩
        · rw [nbeq e] at hq
          simp only [Exit.inBlock, e, if_false]
          exact ⟨trivial, env', hs', hf', hq⟩
      | panic c => exact hok.elim
      | outgrown => exact hok.elim
      | _ => exact ⟨trivial, env', hs', hf', hq⟩
    | _ => exact h a hs
  | .scope x, ann, env, w, a, Q, hs, h => by
    cases ann with
    | block ax =>
      refine wp_scope_straight (wp_mono (vc_sound hT hF hm x ax env w a _ hs h) fun e a' w' ⟨hok, env', hs', hf', hq⟩ => ?_)
      cases e with
      | goto l => exact hq.elim
      | panic c => exact hok.elim
      | outgrown => exact hok.elim
      | _ => exact ⟨trivial, env', hs', hf', hq⟩
    | _ => exact h a hs
  | .loop x, ann, env, w, a, Q, hs, h => by
    cases ann with
    | loop vs ax =>
      simp only [vc] at h
      split at h
      · exact h.elim
      · rename_i l0 hl0
        obtain ⟨I, μ, h0, hround⟩ := h
        refine wp_loop (fun a' w' => ∃ env' l, Sat n env' a' ∧ flats env' vs = some l ∧ Fr (writes x) a a' ∧ apT False (kindsOf vs) I l w')
          (fun a' w' => match flatsA a' vs with | some l => apT 0 (kindsOf vs) μ l w' | none => 0) ⟨env, l0, hs, hl0, Fr.refl _ _, h0⟩ ?_
        rintro a1 w1 ⟨env1, l1, hs1, hl1, hf1, hI⟩
        have hs2 := sat_join hs hs1 hf1 hl1
        have hb := allK_apT hround hI w1 hI
        refine wp_mono (vc_sound hT hF hm x ax _ w1 a1 _ hs2 hb) fun e a' w' ⟨hok, env', hs', hf', hq⟩ => ?_
        have hf2 : Fr (writes x) a a' := hf1.trans hf' (fun d hd => hd) (fun d hd => hd)
        cases e with
        | normal =>
          simp only [onEnd] at hq
          split at hq
          · rename_i l' hl'
            exact ⟨⟨env', l', hs', hl', hf2, hq.1⟩, by rw [flatsA_eq hs' hl', flatsA_eq hs1 hl1]; exact hq.2⟩
          · exact hq.elim
        | panic c => exact hok.elim
        | outgrown => exact hok.elim
        | _ => exact ⟨trivial, env', hs', hf2, hq⟩
    | _ => exact h a hs
  | .rangeFunc _ _ _ _, ann, env, w, a, Q, hs, h => by cases ann <;> exact h a hs
  | .goto _, ann, env, w, a, Q, hs, h => by cases ann <;> exact h a hs
  | .refuse _, ann, env, w, a, Q, hs, h => by cases ann <;> exact h a hs

/-! ## a call -/
def tupV : List Value → Value
  | [v] => v
  | vs => .tuple vs.toArray
def resL (T : Tab) (env : Env) (w : World) : List ResultVar → (List Value → Prop) → Prop
  | [], C => C []
  | .tmp t :: r, C => onV (lk env t) fun v => resL T env w r fun vs => C (v :: vs)
  | .cell t ty :: r, C => match lk env t with
    | some (.pointer q) => onPtr q fun p => qLoad (rdW w) T ty p fun v => resL T env w r fun vs => C (v :: vs)
    | _ => False
def retQ (T : Tab) (rs : List ResultVar) (R : Value → World → Prop) : Exit → Env → World → Prop
  | .normal, env, w => resL T env w rs fun vs => R (tupV vs) w
  | .ret, env, w => resL T env w rs fun vs => R (tupV vs) w
  | _, _, _ => False
def argE : Nat → List Value → Env
  | _, [] => []
  | i, v :: vs => (i, v) :: argE (i + 1) vs
/-- how a call ends well -/
def Ret (R : Value → World → Prop) (e : Ending) (w : World) : Prop := ∃ v, e = .returned v ∧ R v w
def resOf (tmps : Array Value) : ResultVar → Sem Value
  | .tmp t => pure (tmps.getD t undef)
  | .cell p t => do loadVar t (← asAddr (tmps.getD p undef))
theorem results_eq (fn : Func) (tmps : Array Value) : results fn tmps = (do let vs ← fn.results.mapM (resOf tmps); pure (if h : vs.size = 1 then vs[0] else .tuple vs)) := by
  unfold results
  congr 2
theorem resL_run (hT : TabOk P T) {n : Nat} {env : Env} {a : Act} (hs : Sat n env a) {w : World} : ∀ {rs : List ResultVar} {C : List Value → Prop}, resL T env w rs C →
    ∃ vs, C vs ∧ (rs.mapM (resOf a.tmps)).run P w = .ok vs w
  | [], C, h => ⟨[], h, by simp⟩
  | .tmp t :: r, C, h => by
    obtain ⟨v, hv, h⟩ := onV_elim h
    obtain ⟨vs, hC, hr⟩ := resL_run hT hs h
    refine ⟨_, hC, ?_⟩
    have := hs.get t v hv
    simp [List.mapM_cons, resOf, this, hr]
  | .cell t ty :: r, C, h => by
    simp only [resL] at h
    split at h
    · rename_i q hq
      obtain ⟨p, rfl, h⟩ := onPtr_elim h
      obtain ⟨v, h, hv⟩ := qLoad_elim hT (rdW_ok w) h
      obtain ⟨vs, hC, hr⟩ := resL_run hT hs h
      refine ⟨_, hC, ?_⟩
      have := hs.get t _ hq
      simp [List.mapM_cons, resOf, this, hr, asAddr, hv w rfl]
    · exact h.elim
theorem argE_lk : ∀ {vs : List Value} {k i : Nat} {v : Value}, lk (argE k vs) i = some v → k ≤ i ∧ vs[i - k]? = some v
  | [], k, i, v, h => by simp [argE, lk] at h
  | u :: vs, k, i, v, h => by
    simp only [argE, lk] at h
    by_cases e : k = i
    · subst e
      simp at h
      simp [h]
    · rw [nbeq e] at h
      obtain ⟨h1, h2⟩ := argE_lk (k := k + 1) h
      refine ⟨by omega, ?_⟩
      have : i - k = (i - (k + 1)) + 1 := by omega
      rw [this]; simpa using h2
theorem calls_of_vc (hT : TabOk P T) (hF : FOk P F) (hm : P.follows .mixedOrders = true) {f : Nat} {fn : Func} {c : Code} (hf : P.funcs[f]? = some fn) (hb : fn.body = some c) {vs : List Value} {n : Nat} (hn : (Nat.ble vs.length n && Nat.beq n fn.ntmps) = true)
    {w : World} {R : Value → World → Prop} {ann : Ann} (h : vc P T F n c ann (argE 0 vs) w (retQ T fn.results.toList R)) : Calls P f vs.toArray w (Ret R) := by
  rw [Bool.and_eq_true] at hn
  have h1 : vs.length ≤ n := Nat.le_of_ble_eq_true hn.1
  have h2 : n = fn.ntmps := Nat.eq_of_beq_eq_true hn.2
  refine calls_of_wp hf hb ?_
  refine wp_mono (vc_sound hT hF hm c ann _ w _ _ ⟨by simp; omega, fun i v hi => ?_⟩ h) fun e a w' ⟨hok, env, hs, hfr, hq⟩ => ?_
  · obtain ⟨_, h4⟩ := argE_lk hi
    simp only [Nat.sub_zero] at h4
    have hlt : i < vs.length := by
      rcases Nat.lt_or_ge i vs.length with h | h
      · exact h
      · rw [List.getElem?_eq_none h] at h4; cases h4
    rw [Array.getElem?_append_left (by simpa using hlt)]
    simpa using h4
  · have fin : resL T env w' fn.results.toList (fun vs => R (tupV vs) w') → ∃ v, (results fn a.tmps).run P w' = .ok v w' ∧ Ret R (.returned v) w' := by
      intro hq
      obtain ⟨vs, hC, hr⟩ := resL_run hT hs hq
      refine ⟨tupV vs, ?_, _, rfl, hC⟩
      rw [results_eq, Sem.run_bind, Array.mapM_eq_mapM_toList, Sem.run_map, hr]
      simp only [Result.andThen_ok, Sem.run_pure]
      congr 1
      match vs with
      | [] => rfl
      | [v] => rfl
      | u :: v :: l => simp [tupV]
    cases e with
    | normal => exact ⟨hfr.defers, fin hq⟩
    | ret => exact ⟨hfr.defers, fin hq⟩
    | panic c => exact hok.elim
    | outgrown => exact hok.elim
    | exit i => exact hq.elim
    | goto l => exact hq.elim

/-! ## how the tables are laid -/
theorem tok_mk {t : Nat} {i : TI} (h1 : dOf P t = some i.d) (h2 : (P.info? t).map (fun j => (j.size, j.zero, j.bytes)) = some (i.size, some i.zero, i.bytes)) (h3 : shOk i = true) (h4 : i.eq = false) : TOk P (t, i) := by
  unfold TOk
  split
  · trivial
  · exact ⟨h1, h2, h3, fun h => absurd (h.symm.trans h4) (by decide)⟩
theorem tok_eq {t : Nat} {i : TI} (ks : List Kd) (h1 : dOf P t = some i.d) (h2 : (P.info? t).map (fun j => (j.size, j.zero, j.bytes)) = some (i.size, some i.zero, i.bytes)) (h3 : shOk i = true)
    (h4 : i.sh = .agg ks) (h5 : eqLeaf P 8 t = some ks) (h6 : P.eqGuardType P.depth t = false) : TOk P (t, i) := by
  unfold TOk
  split
  · trivial
  · exact ⟨h1, h2, h3, fun _ => ⟨ks, h4, h5, h6⟩⟩
theorem tok_tup (t : Nat) (d : D) (l : List (Bool × List Kd)) (n : Nat) (z : Value) (b : Nat) (e : Bool) : TOk P (t, ⟨d, .tup l, n, z, b, e⟩) := trivial
theorem tab_nil : TabOk P [] := fun x h => by cases h
theorem tab_cons {x : Nat × TI} {r : Tab} (h : TOk P x) (hr : TabOk P r) : TabOk P (x :: r) := fun y hy => by
  rcases List.mem_cons.1 hy with rfl | hy
  · exact h
  · exact hr y hy
theorem fl_nil : FOk P [] := fun x h => by cases h
theorem fl_cons {f : Nat} {r : List Nat} (h : ∃ fn, P.funcs[f]? = some fn ∧ fn.body.isNone = false ∧ (fn.name == "runtime.NumGoroutine") = false) (hr : FOk P r) : FOk P (f :: r) := fun y hy => by
  rcases List.mem_cons.1 hy with rfl | hy
  · exact ⟨h⟩
  · exact hr y hy
end Go.Vc
