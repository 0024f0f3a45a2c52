import Derived.Test.YtibpbbjlecohiaaVc7
import Derived.OrdersIn
import Derived.TacticsIn
import Derived.RangeFuncRecord
namespace Go.Vc
variable {P : Program} {T : Tab} {F : List Nat}

/-! ## ranges over functions: code that calls yield -/
/-- what is let in: everything; r: the round in which the code runs -/
abbrev Zr (r : Option Nat) : Fence := { Fence.wide with round := r }
theorem calls_in {r : Option Nat} {m : Nat} {f : FuncId} {args : Array Value} {w : World} {R : Ending → World → Prop} (h : Calls P f args w R) : CallsIn (Zr r) m P f args w R := (callsIn_wide (n := m)).2 h
theorem rows_in {r : Option Nat} {m : Nat} {row : String} {args : Array Value} {w : World} {R : Value → World → Prop} (h : Rows P row args w R) : RowsIn (Zr r) m P row args w R :=
  fun c cs _ => let ⟨v, w', hr, hs⟩ := h c cs; ⟨v, w', hr, stepsIn_wide.2 hs⟩
def noDefer (l : List Oper) : Bool := l.all fun o => match o.op with | .defer _ => false | _ => true
theorem noDefer_at {l : List Oper} (h : noDefer l = true) {o : Oper} (ho : o ∈ l) : ∀ c, o.op ≠ .defer c := fun c hc => by
  have := List.all_eq_true.1 h o ho
  rw [hc] at this
  cases this
theorem op_in {r : Option Nat} {m : Nat} {o : Oper} {a : Act} {w : World} {next : Act → World → Prop} {Q : Exit → Act → World → Prop} (hd : ∀ c, o.op ≠ .defer c) (h : o.wp P a w next Q) : o.wpIn (Zr r) m P a w next Q := by
  refine ⟨fun _ _ => trivial, ?_⟩
  rw [Oper.semAt_eq _ _ _ hd]
  unfold Oper.wp at h
  generalize (execOp a.eval o).run P w = x at *
  cases x with
  | ok x w' =>
    cases x <;> simp only [Oper.upon, Oper.uponIn] at h ⊢ <;> first
      | exact h
      | exact ⟨fun h => (by cases h), (calls_in h).mono fun e w'' he => by cases e <;> exact he⟩
      | exact ⟨fun h => (by cases h), (rows_in h).mono fun v w'' he => he⟩
      | exact h.elim
  | halt x w' => cases x <;> simp only [Oper.upon, Oper.uponIn] at h ⊢ <;> exact h
theorem wpOp_in {r : Option Nat} {m : Nat} {ops : Array Oper} {Q : Exit → Act → World → Prop} (hout : ∀ a w, ¬ Q .outgrown a w) (hd : noDefer ops.toList = true) {i : Nat} {a : Act} {w : World} {K : Act → World → Prop}
    (h : wpOp P ops Q i K a w) : wpOpIn (Zr r) m P ops Q i K a w := by
  unfold wpOp at h
  unfold wpOpIn
  cases ho : ops[i]? with
  | none => rw [ho] at h; exact h
  | some o =>
    rw [ho] at h
    simp only [] at h ⊢
    split at h
    · rename_i hw
      rw [if_pos hw]
      rcases h with h | ⟨_, a0, w0, hq⟩
      · exact op_in (noDefer_at hd (by simpa using Array.mem_of_getElem? ho)) h
      · exact (hout _ _ hq).elim
    · rename_i hw
      rw [if_neg hw]
      exact ⟨fun _ _ => trivial, h⟩
theorem any_of_headIn {r : Option Nat} {m : Nat} {ops : Array Oper} {md : Region.Mode} {Q : Exit → Act → World → Prop} {S : World → Prop} (hout : ∀ a w, ¬ Q .outgrown a w) (hd : noDefer ops.toList = true) {n g : Nat} {L : Array Bool → Act → World → Prop}
    (hL : ∀ listed a w, L listed a w → wpAnyIn (Zr r) m P md ops Q g listed a w) :
    ∀ (f : Nat) (listed : Array Bool) (a : Act) (w : World), anyH P md ops Q S n L f listed a w → wpAnyIn (Zr r) m P md ops Q (f + g) listed a w
  | 0, listed, a, w, h => by rw [Nat.zero_add]; exact hL _ _ _ h
  | f + 1, listed, a, w, h => by
    rw [show f + 1 + g = (f + g) + 1 by omega]
    exact ⟨fun e => absurd e h.1, fun i hi => wpOpIn_mono (fun a' w' h' => any_of_headIn hout hd hL f _ a' w' h'.2) (wpOp_in hout hd (h.2 i hi).2)⟩
theorem wpAnyIn_of_seq {r : Option Nat} {m : Nat} {ops : Array Oper} {md : Region.Mode} {Q' : Exit → Act → World → Prop} : ∀ (l : List Oper) (k : Nat) (listed : Array Bool) (a : Act) (w : World), (∀ j, l[j]? = ops[k + j]?) →
    Region.seqB md ops l.length k listed = true → wpListIn (Zr r) m P ops Q' l a w → wpAnyIn (Zr r) m P md ops Q' l.length listed a w
  | [], _, _, _, _, _, hB, h => ⟨by simpa [Region.seqB] using hB, h⟩
  | o :: l, k, listed, a, w, hl, hB, h => by
    have h0 : ops[k]? = some o := by simpa using (hl 0).symm
    simp only [List.length_cons, Region.seqB, Bool.and_eq_true, decide_eq_true_eq] at hB
    refine ⟨fun h1 => (by rw [hB.1] at h1; cases h1), fun i hi => ?_⟩
    rw [hB.1] at hi
    have hik : i = k := by simpa using hi
    subst hik
    have hw : wpOpIn (Zr r) m P ops Q' i (wpListIn (Zr r) m P ops Q' l) a w := by unfold wpOpIn; simp only [h0]; exact h
    exact wpOpIn_mono (fun a' w' h' => wpAnyIn_of_seq l (i + 1) _ a' w' (fun j => by have := hl (j + 1); simpa [Nat.add_assoc, Nat.add_comm 1 j] using this) hB.2 h') hw

/-- a call of yield in w -/
def YieldTo (P : Program) (l : Nat) (vs : Array Value) (w : World) (R : Bool → World → Prop) : Prop :=
  ∃ fn tmps assign body, (Instr.yield l vs).run P w = .ok (.round l fn tmps assign body) w ∧ ∀ r m, RoundIn (Zr r) m P l fn tmps assign body w fun e w' => ∃ b : Bool, e = .returned (.bool b) ∧ R b w'
theorem YieldTo.mono {l : Nat} {vs : Array Value} {w : World} {R R' : Bool → World → Prop} (h : YieldTo P l vs w R) (hR : ∀ b w', R b w' → R' b w') : YieldTo P l vs w R' := by
  obtain ⟨fn, tmps, assign, body, h1, h2⟩ := h
  exact ⟨fn, tmps, assign, body, h1, fun r m => (h2 r m).mono fun e w' ⟨b, he, hb⟩ => ⟨b, he, hR b w' hb⟩⟩
def yArgs (env : Env) (o : Oper) : Option (Nat × List Value) := match o.op with
  | .call ⟨.value f, args, _⟩ => match opv env f, opvs env args.toList with
    | some (.func (.yield l) first _), some vs => some (l, first.toList ++ vs)
    | _, _ => none
  | _ => none
def vcOpY (P : Program) (T : Tab) (F : List Nat) (env : Env) (o : Oper) (w : World) (C : Value → World → Prop) : Prop := match yArgs env o with
  | some (l, vs) => YieldTo P l vs.toArray w fun b w' => C (.bool b) w'
  | none => vcOp P T F env o w C
theorem vcOpY_sound {r : Option Nat} {m : Nat} (hT : TabOk P T) (hF : FOk P F) {n : Nat} {env : Env} {a : Act} (hs : Sat n env a) {o : Oper} (hd : ∀ c, o.op ≠ .defer c) {w : World} {C : Value → World → Prop} (h : vcOpY P T F env o w C)
    {K : Act → World → Prop} {Q : Exit → Act → World → Prop} (hK : ∀ v w', C v w' → K (a.put o.dst v) w') : o.wpIn (Zr r) m P a w K Q := by
  unfold vcOpY at h
  split at h
  · rename_i l vs hy
    unfold yArgs at hy
    split at hy
    · rename_i f args ts ho
      split at hy
      · rename_i l' first cap us hf hus
        cases hy
        obtain ⟨fn, tmps, assign, body, h1, h2⟩ := h
        have e1 : args.map a.eval = us.toArray := Array.toList_inj.1 (by rw [Array.toList_map]; exact hs.evals hus)
        have e2 : first ++ us.toArray = (first.toList ++ us).toArray := by apply Array.toList_inj.1; simp
        have : (execOp a.eval o).run P w = .ok (.round l fn tmps assign body) w := by
          simp only [execOp, ho, resolve, Deferred.ofValue, hs.eval hf, e1, Sem.run_bind, Sem.run_pure, Result.andThen_ok, invoke, e2]
          exact h1
        refine ⟨fun _ _ => trivial, ?_⟩
        rw [Oper.semAt_eq _ _ _ hd, this]
        rw [Oper.uponIn_round]
        refine ⟨fun h => (by cases h), (h2 r (m - 1)).mono fun e w' ⟨b, he, hb⟩ => ?_⟩
        subst he
        exact hK _ _ hb
      · cases hy
    · cases hy
  · exact op_in hd (vcOp_sound hT hF hs h hK)
def vcOpsY (P : Program) (T : Tab) (F : List Nat) (n : Nat) (all : List Oper) : List Oper → Env → World → (Env → World → Prop) → Prop
  | [], env, w, Q => Q env w
  | o :: r, env, w, Q => match o.guard with
    | none => vcOpY P T F env o w fun v w' => upd n env o.dst v fun env' => vcOpsY P T F n all r env' w' Q
    | some (j, want) => match gSlot all j with
      | none => False
      | some d => match lk env d with
        | none => False
        | some (.bool b) => bcase b
            (bif want then vcOpY P T F ((d, .bool true) :: env) o w fun v w' => upd n ((d, .bool true) :: env) o.dst v fun env' => vcOpsY P T F n all r env' w' Q
              else upd n ((d, .bool true) :: env) o.dst undef fun env' => vcOpsY P T F n all r env' w Q)
            (bif want then upd n ((d, .bool false) :: env) o.dst undef fun env' => vcOpsY P T F n all r env' w Q
              else vcOpY P T F ((d, .bool false) :: env) o w fun v w' => upd n ((d, .bool false) :: env) o.dst v fun env' => vcOpsY P T F n all r env' w' Q)
        | some _ => upd n env o.dst undef fun env' => vcOpsY P T F n all r env' w Q
theorem vcOpsY_sound {z : Option Nat} {m : Nat} (hT : TabOk P T) (hF : FOk P F) {n : Nat} {all : List Oper} {W : List Nat} {a0 : Act} {Q : Env → World → Prop} {Q' : Exit → Act → World → Prop}
    (hQ : ∀ env a w, Sat n env a → Fr W a0 a → Q env w → Q' .normal a w) : ∀ (r : List Oper) (env : Env) (w : World) (a : Act), (∀ o ∈ r, (∀ c, o.op ≠ .defer c) ∧ ∀ d, o.dst = some d → d ∈ W) → Sat n env a → Fr W a0 a →
    vcOpsY P T F n all r env w Q → wpListIn (Zr z) m P all.toArray Q' r a w
  | [], env, w, a, _, hs, hf, h => hQ env a w hs hf h
  | o :: r, env, w, a, hd, hs, hf, h => by
    obtain ⟨hnd, hd0⟩ := hd o (by simp)
    have hd' : ∀ o ∈ r, (∀ c, o.op ≠ .defer c) ∧ ∀ d, o.dst = some d → d ∈ W := fun o' ho' => hd o' (by simp [ho'])
    have run : ∀ env', Sat n env' a → (vcOpY P T F env' o w fun v w' => upd n env' o.dst v fun env'' => vcOpsY P T F n all r env'' w' Q) → o.wpIn (Zr z) m P a w (wpListIn (Zr z) m P all.toArray Q' r) Q' := fun env' hs' hv =>
      vcOpY_sound hT hF hs' hnd hv fun v w' hu => by
        obtain ⟨env'', h1, h2⟩ := hs'.upd hu
        exact vcOpsY_sound hT hF hQ r env'' w' _ hd' h2 (hf.put hd0 v) h1
    have skip : ∀ env', Sat n env' a → (upd n env' o.dst undef fun env'' => vcOpsY P T F n all r env'' w Q) → wpListIn (Zr z) m P all.toArray Q' r (a.put o.dst undef) w := fun env' hs' hu => by
      obtain ⟨env'', h1, h2⟩ := hs'.upd hu
      exact vcOpsY_sound hT hF hQ r env'' w _ hd' h2 (hf.put hd0 undef) h1
    simp only [vcOpsY] at h
    unfold wpListIn
    split at h
    · rename_i hg
      rw [if_pos (by simp [Region.wanted, hg])]
      exact run env hs h
    · rename_i j want hg
      split at h
      · exact h.elim
      · rename_i d hgs
        have hw : ∀ u, lk env d = some u → Region.wanted o (yielded all.toArray a.tmps) = boolIs u want := fun u hu => by
          simp only [Region.wanted, hg, yielded_eq hs hgs hu]
          cases u <;> rfl
        split at h
        · exact h.elim
        · rename_i b hb
          rw [hw _ hb]
          refine bcase_elim h (fun e h => ?_) (fun e h => ?_)
          · subst e
            have hs' := hs.note (u := .bool true) hb rfl
            cases want
            · rw [if_neg (by decide)]; exact ⟨fun _ _ => trivial, skip _ hs' h⟩
            · rw [if_pos (by decide)]; exact run _ hs' h
          · subst e
            have hs' := hs.note (u := .bool false) hb rfl
            cases want
            · rw [if_pos (by decide)]; exact run _ hs' h
            · rw [if_neg (by decide)]; exact ⟨fun _ _ => trivial, skip _ hs' h⟩
        · rename_i u hn hu
          rw [hw _ hu]
          have : boolIs u want = false := boolIs_not hn
          rw [if_neg (by rw [this]; simp)]
          exact ⟨fun _ _ => trivial, skip env hs h⟩
theorem draw_opsY {z : Option Nat} {m : Nat} (hT : TabOk P T) (hF : FOk P F) {n : Nat} {ops : List Oper} {W : List Nat} (hW : ∀ d ∈ dsts ops, d ∈ W) {a0 a : Act} {env : Env} {w : World}
    {Q : Env → World → Prop} {Q' : Exit → Act → World → Prop} (hpan : ∀ c a w, ¬ Q' (.panic c) a w) (hout : ∀ a w, ¬ Q' .outgrown a w) (hnd : noDefer ops = true)
    (hQ : ∀ env a w, Sat n env a → Fr W a0 a → Q env w → Q' .normal a w) (hs : Sat n env a) (hf : Fr W a0 a) {mixed : Bool} {nh : Nat} {segs : List (List (Nat × Bool))} {bag : List Nat}
    (h : vcDrawG P T F n ops mixed nh segs bag env w fun env' w' => vcOpsY P T F n ops (ops.drop nh) env' w' Q) : wpAnyIn (Zr z) m P .any ops.toArray Q' ops.toArray.size (Array.replicate ops.toArray.size false) a w.drew := by
  have hd : ∀ o ∈ ops, (∀ c, o.op ≠ .defer c) ∧ ∀ d, o.dst = some d → d ∈ W := fun o ho => ⟨noDefer_at hnd ho, fun d hd => hW d (mem_dsts ho hd)⟩
  obtain ⟨hnle, S, H⟩ := draw_head hT hF hW (tailP := fun a w => wpListIn (Zr z) m P ops.toArray Q' (ops.drop nh) a w) hpan (fun env a w hs hf h => vcOpsY_sound hT hF hQ (ops.drop nh) env w a (fun o ho => hd o (List.mem_of_mem_drop ho)) hs hf h) hs hf h
  have := any_of_headIn (r := z) (m := m) (g := ops.toArray.size - nh) hout (by simpa using hnd) (fun listed a w hl => by
    have := wpAnyIn_of_seq (md := .any) (Q' := Q') (ops.drop nh) nh listed a w (fun j => by simp [List.getElem?_drop]) (by simpa using hl.1) hl.2
    simpa using this) _ _ _ _ H
  rw [show nh + (ops.toArray.size - nh) = ops.toArray.size by simp; omega] at this
  exact this

/-- like 'vc'; the code may call yield -/
def vcY (P : Program) (T : Tab) (F : List Nat) (n : Nat) : Code → Ann → Env → World → (Exit → Env → World → Prop) → Prop
  | .skip, _, env, w, Q => Q .normal env w
  | .label _, _, env, w, Q => Q .normal env w
  | .ret, _, env, w, Q => Q .ret env w
  | .exit id, _, env, w, Q => Q (.exit id) env w
  | .region _ ops false, _, env, w, Q => bif noDefer ops.toList then vcOpsY P T F n ops.toList ops.toList env w fun e w' => Q .normal e w' else False
  | .region _ ops true, .draw m nh ord bag, env, w, Q => bif noDefer ops.toList then vcDrawG P T F n ops.toList m nh ord bag env w fun env' w' => vcOpsY P T F n ops.toList (ops.toList.drop nh) env' w' fun e w' => Q .normal e w' else False
  | .seq a b, .seq x y, env, w, Q => vcY P T F n a x env w (onEnd Q fun env' w' => vcY P T F n b y env' w' Q)
  | .seq a b, .join vs x y, env, w, Q => ∃ J : CT Prop (kindsOf vs),
      (allK (kindsOf vs) fun l => ∀ w', apT False (kindsOf vs) J l w' → vcY P T F n b y (packs vs l ++ dropE (writes a) env) w' Q) ∧
      vcY P T F n a x env w (onEnd Q fun env' w' => match flats env' vs with
        | some l => apT False (kindsOf vs) J l w'
        | none => False)
  | .cond c a b, .cond x y, env, w, Q => match opv env c with
    | some (.bool t) => bcase t (vcY P T F n a x env w Q) (vcY P T F n b y env w Q)
    | _ => False
  | .block id a, .block x, env, w, Q => vcY P T F n a x env w (onExit id Q)
  | .loop a, .loop vs x, env, w, Q => match flats env vs with
    | none => False
    | some l0 => ∃ (I : CT Prop (kindsOf vs)) (μ : CT Nat (kindsOf vs)), apT False (kindsOf vs) I l0 w ∧
      allK (kindsOf vs) fun l => ∀ w', apT False (kindsOf vs) I l w' → vcY P T F n a x (packs vs l ++ dropE (writes a) env) w' (onEnd Q fun env'' w'' => match flats env'' vs with
        | some l' => apT False (kindsOf vs) I l' w'' ∧ apT 0 (kindsOf vs) μ l' w'' < apT 0 (kindsOf vs) μ l w'
        | none => False)
  | _, _, _, _, _ => False
theorem vcY_sound {z : Option Nat} {m : Nat} (hT : TabOk P T) (hF : FOk P F) (hm : P.follows .mixedOrders = true) {n : Nat} : ∀ (c : Code) (ann : Ann) (env : Env) (w : World) (a : Act) (Q : Exit → Env → World → Prop),
    Sat n env a → vcY P T F n c ann env w Q → c.wpIn (Zr z) m P (liftQ n (writes c) a Q) a w
  | .skip, ann, env, w, a, Q, hs, h => wpIn_skip ⟨trivial, env, hs, Fr.refl _ _, by cases ann <;> exact h⟩
  | .label _, ann, env, w, a, Q, hs, h => wpIn_label ⟨trivial, env, hs, Fr.refl _ _, by cases ann <;> exact h⟩
  | .ret, ann, env, w, a, Q, hs, h => wpIn_ret ⟨trivial, env, hs, Fr.refl _ _, by cases ann <;> exact h⟩
  | .exit id, ann, env, w, a, Q, hs, h => wpIn_exit ⟨trivial, env, hs, Fr.refl _ _, by cases ann <;> exact h⟩
  | .region id ops false, ann, env, w, a, Q, hs, h => by
    have h' : bif noDefer ops.toList then vcOpsY P T F n ops.toList ops.toList env w fun e w' => Q .normal e w' else False := by cases ann <;> exact h
    cases hnd : noDefer ops.toList with
    | false => rw [hnd] at h'; exact h'.elim
    | true =>
      rw [hnd] at h'
      refine wpIn_region_list (vcOpsY_sound (Q' := liftQ n (writes (.region id ops false)) a Q) (W := writes (.region id ops false)) (a0 := a) hT hF (fun env a' w' hs' hf' hq => ⟨trivial, env, hs', hf', hq⟩) ops.toList env w a (fun o ho => ⟨noDefer_at hnd ho, fun d hd => mem_dsts ho hd⟩) hs (Fr.refl _ _) h')
  | .region id ops true, ann, env, w, a, Q, hs, h => by
    cases ann with
    | draw mx nh ord bag =>
      have h' : bif noDefer ops.toList then vcDrawG P T F n ops.toList mx nh ord bag env w fun env' w' => vcOpsY P T F n ops.toList (ops.toList.drop nh) env' w' fun e w' => Q .normal e w' else False := h
      cases hnd : noDefer ops.toList with
      | false => rw [hnd] at h'; exact h'.elim
      | true =>
        rw [hnd] at h'
        have := draw_opsY (z := z) (m := m) (ops := ops.toList) (Q := fun e w' => Q .normal e w') (Q' := liftQ n (writes (.region id ops true)) a Q) hT hF (W := writes (.region id ops true)) (a0 := a) (fun d hd => hd) (fun c a w hq => hq.1) (fun a w hq => hq.1) hnd (fun env a' w' hs' hf' hq => ⟨trivial, env, hs', hf', hq⟩) hs (Fr.refl _ _) h'
        exact wpIn_region_any hm this
    | _ => exact h.elim
  | .seq x y, ann, env, w, a, Q, hs, h => by
    cases ann with
    | seq ax ay =>
      refine wpIn_seq (wpIn_mono (vcY_sound hT hF hm x ax env w a _ hs h) fun e a' w' ⟨hok, env', hs', hf', hq⟩ => ?_)
      cases e with
      | normal =>
        refine wpIn_mono (vcY_sound hT hF hm y ay env' w' a' Q hs' hq) fun e2 a2 w2 ⟨hok2, env2, hs2, hf2, hq2⟩ => ⟨hok2, env2, hs2, ?_, hq2⟩
        exact hf'.trans hf2 (fun d hd => by simp [writes, hd]) (fun d hd => by simp [writes, hd])
      | panic c => exact hok.elim
      | outgrown => exact hok.elim
      | _ => exact ⟨trivial, env', hs', hf'.trans (Fr.refl (writes y) _) (fun d hd => by simp [writes, hd]) (fun d hd => by simp [writes, hd]), hq⟩
    | join vs ax ay =>
      obtain ⟨J, hJ, h⟩ := h
      refine wpIn_seq (wpIn_mono (vcY_sound hT hF hm x ax env w a _ hs h) fun e a' w' ⟨hok, env', hs', hf', hq⟩ => ?_)
      cases e with
      | normal =>
        simp only [onEnd] at hq
        split at hq
        · rename_i l hl
          have hs2 := sat_join hs hs' hf' hl
          have := allK_apT hJ hq w' hq
          refine wpIn_mono (vcY_sound hT hF hm y ay _ w' a' Q hs2 this) fun e2 a2 w2 ⟨hok2, env2, hs2, hf2, hq2⟩ => ⟨hok2, env2, hs2, ?_, hq2⟩
          exact hf'.trans hf2 (fun d hd => by simp [writes, hd]) (fun d hd => by simp [writes, hd])
        · exact hq.elim
      | panic c => exact hok.elim
      | outgrown => exact hok.elim
      | _ => exact ⟨trivial, env', hs', hf'.trans (Fr.refl (writes y) _) (fun d hd => by simp [writes, hd]) (fun d hd => by simp [writes, hd]), hq⟩
    | _ => exact h.elim
  | .cond c x y, ann, env, w, a, Q, hs, h => by
    cases ann with
    | cond ax ay =>
      simp only [vcY] at h
      split at h
      · rename_i t ht
        refine wpIn_cond_split (hs.eval ht) (fun e => ?_) (fun e => ?_)
        · subst e
          exact wpIn_mono (vcY_sound hT hF hm x ax env w a Q hs h) fun e2 a2 w2 ⟨hok2, env2, hs2, hf2, hq2⟩ => ⟨hok2, env2, hs2, hf2.trans (Fr.refl (writes y) _) (fun d hd => by simp [writes, hd]) (fun d hd => by simp [writes, hd]), hq2⟩
        · subst e
          exact wpIn_mono (vcY_sound hT hF hm y ay env w a Q hs h) fun e2 a2 w2 ⟨hok2, env2, hs2, hf2, hq2⟩ => ⟨hok2, env2, hs2, hf2.trans (Fr.refl (writes x) _) (fun d hd => by simp [writes, hd]) (fun d hd => by simp [writes, hd]), hq2⟩
      · exact h.elim
    | _ => exact h.elim
  | .block id x, ann, env, w, a, Q, hs, h => by
    cases ann with
    | block ax =>
      refine wpIn_block (wpIn_mono (vcY_sound hT hF hm x ax env w a _ hs h) fun e a' w' ⟨hok, env', hs', hf', hq⟩ => ?_)
      cases e with
      | exit i =>
        simp only [onExit] at hq
        by_cases e : i = id
        · subst e
          simp at hq
          simp only [Exit.inBlock, if_true]
          exact ⟨trivial, env', hs', hf', hq⟩
        · rw [nbeq e] at hq
          simp only [Exit.inBlock, e, if_false]
          exact ⟨trivial, env', hs', hf', hq⟩
      | panic c => exact hok.elim
      | outgrown => exact hok.elim
      | _ => exact ⟨trivial, env', hs', hf', hq⟩
    | _ => exact h.elim
  | .loop x, ann, env, w, a, Q, hs, h => by
    cases ann with
    | loop vs ax =>
      simp only [vcY] at h
      split at h
      · exact h.elim
      · rename_i l0 hl0
        obtain ⟨I, μ, h0, hround⟩ := h
        refine wpIn_loop (fun a' w' => ∃ env' l, Sat n env' a' ∧ flats env' vs = some l ∧ Fr (writes x) a a' ∧ apT False (kindsOf vs) I l w')
          (fun a' w' => match flatsA a' vs with | some l => apT 0 (kindsOf vs) μ l w' | none => 0) ⟨env, l0, hs, hl0, Fr.refl _ _, h0⟩ ?_
        rintro a1 w1 ⟨env1, l1, hs1, hl1, hf1, hI⟩
        have hs2 := sat_join hs hs1 hf1 hl1
        have hb := allK_apT hround hI w1 hI
        refine wpIn_mono (vcY_sound hT hF hm x ax _ w1 a1 _ hs2 hb) fun e a' w' ⟨hok, env', hs', hf', hq⟩ => ?_
        have hf2 : Fr (writes x) a a' := hf1.trans hf' (fun d hd => hd) (fun d hd => hd)
        cases e with
        | normal =>
          simp only [onEnd] at hq
          split at hq
          · rename_i l' hl'
            exact ⟨⟨env', l', hs', hl', hf2, hq.1⟩, by rw [flatsA_eq hs' hl', flatsA_eq hs1 hl1]; exact hq.2⟩
          · exact hq.elim
        | panic c => exact hok.elim
        | outgrown => exact hok.elim
        | _ => exact ⟨trivial, env', hs', hf2, hq⟩
    | _ => exact h.elim
  | .scope _, ann, env, w, a, Q, hs, h => by cases ann <;> exact h.elim
  | .rangeFunc _ _ _ _, ann, env, w, a, Q, hs, h => by cases ann <;> exact h.elim
  | .goto _, ann, env, w, a, Q, hs, h => by cases ann <;> exact h.elim
  | .refuse _, ann, env, w, a, Q, hs, h => by cases ann <;> exact h.elim

theorem ret_fin (hT : TabOk P T) {n : Nat} {env : Env} {a : Act} (hs : Sat n env a) {fn : Func} {w' : World} {R : Value → World → Prop} (hq : resL T env w' fn.results.toList (fun vs => R (tupV vs) w')) :
    ∃ v, (results fn a.tmps).run P w' = .ok v w' ∧ Ret R (.returned v) w' := by
  obtain ⟨vs, hC, hr⟩ := resL_run hT hs hq
  refine ⟨tupV vs, ?_, _, rfl, hC⟩
  rw [results_eq, Sem.run_bind, Array.mapM_eq_mapM_toList, Sem.run_map, hr]
  simp only [Result.andThen_ok, Sem.run_pure]
  congr 1
  match vs with
  | [] => rfl
  | [v] => rfl
  | u :: v :: l => simp [tupV]
theorem sat_enter {n : Nat} {fn : Func} {vs : List Value} (hn : (Nat.ble vs.length n && Nat.beq n fn.ntmps) = true) :
    Sat n (argE 0 vs) { tmps := vs.toArray ++ Array.replicate (fn.ntmps - vs.toArray.size) undef, defers := [] } := by
  rw [Bool.and_eq_true] at hn
  have h1 : vs.length ≤ n := Nat.le_of_ble_eq_true hn.1
  have h2 : n = fn.ntmps := Nat.eq_of_beq_eq_true hn.2
  refine ⟨by simp; omega, fun i v hi => ?_⟩
  obtain ⟨_, h4⟩ := argE_lk hi
  simp only [Nat.sub_zero] at h4
  have hlt : i < vs.length := by
    rcases Nat.lt_or_ge i vs.length with h | h
    · exact h
    · rw [List.getElem?_eq_none h] at h4; cases h4
  rw [Array.getElem?_append_left (by simpa using hlt)]
  simpa using h4
theorem calls_of_vcY (hT : TabOk P T) (hF : FOk P F) (hm : P.follows .mixedOrders = true) {f : Nat} {fn : Func} {c : Code} (hf : P.funcs[f]? = some fn) (hb : fn.body = some c) {vs : List Value} {n : Nat} (hn : (Nat.ble vs.length n && Nat.beq n fn.ntmps) = true)
    {w : World} {R : Value → World → Prop} {ann : Ann} (h : vcY P T F n c ann (argE 0 vs) w (retQ T fn.results.toList R)) : Calls P f vs.toArray w (Ret R) := by
  refine (callsIn_wide (n := 0)).1 (callsIn_of_wp hf hb trivial ?_)
  refine wpIn_mono (vcY_sound (z := none) hT hF hm c ann _ w _ _ (sat_enter hn) h) fun e a w' ⟨hok, env, hs, hfr, hq⟩ => ?_
  cases e with
  | normal => exact ⟨hfr.defers, ret_fin hT hs hq⟩
  | ret => exact ⟨hfr.defers, ret_fin hT hs hq⟩
  | panic c => exact hok.elim
  | outgrown => exact hok.elim
  | exit i => exact hq.elim
  | goto l => exact hq.elim

/-! ## a round -/
def putE : List Nat → List Value → Env → Env
  | p :: ps, v :: vs, env => putE ps vs ((p, v) :: env)
  | _, _, env => env
def setT : List Nat → List Value → Array Value → Array Value
  | p :: ps, v :: vs, t => setT ps vs (t.setIfInBounds p v)
  | _, _, t => t
theorem setT_eq : ∀ (ps : List Nat) (vs : List Value) (t : Array Value), ((ps.zip vs).foldl (fun t (x : Nat × Value) => t.setIfInBounds x.1 x.2) t) = setT ps vs t
  | [], _, t => by simp [setT]
  | _ :: _, [], t => by simp [setT]
  | p :: ps, v :: vs, t => by simp [setT, setT_eq ps vs]
theorem sat_putE {n : Nat} : ∀ {ps : List Nat} {vs : List Value} {env : Env} {t : Array Value} {d : List Deferred}, ps.all (Nat.blt · n) = true → Sat n env ⟨t, d⟩ → Sat n (putE ps vs env) ⟨setT ps vs t, d⟩
  | [], _, env, t, d, _, hs => by simpa [putE, setT] using hs
  | _ :: _, [], env, t, d, _, hs => by simpa [putE, setT] using hs
  | p :: ps, v :: vs, env, t, d, h, hs => by
    simp only [List.all_cons, Bool.and_eq_true] at h
    exact sat_putE (ps := ps) (vs := vs) h.2 (hs.put (blt_lt h.1) v)
/-- how a round ends: the record is there -/
def endQ (l : Nat) (R : Bool → World → Prop) (e : Exit) (w : World) : Prop := ∃ rc : Loop, w.heap[l]? = some (.loop rc) ∧ match e with
  | .normal => R true (w.putObj l (.loop { rc with state := .ready, pending := none }))
  | .ret => R false (w.putObj l (.loop { rc with state := .done, pending := some .ret }))
  | .exit id => R false (w.putObj l (.loop { rc with state := .done, pending := some (.exit id) }))
  | _ => False
def beginQ (l : Nat) (C : World → Prop) (w : World) : Prop := ∃ rc : Loop, w.heap[l]? = some (.loop rc) ∧ rc.state = .ready ∧ C (w.putObj l (.loop { rc with state := .busy }))
/-- the loop's record as it was laid -/
structure Laid (n : Nat) (env : Env) (ps : Array Tmp) (assign body : Code) (rc : Loop) : Prop where
  state : rc.state = .ready
  pending : rc.pending = none
  params : rc.params = ps
  assign : rc.assign = assign
  body : rc.body = body
  sat : Sat n env ⟨rc.tmps, []⟩
theorem Sat.defers {n : Nat} {env : Env} {t : Array Value} {d d' : List Deferred} (h : Sat n env ⟨t, d⟩) : Sat n env ⟨t, d'⟩ := ⟨h.size, h.get⟩
theorem yields_of_vc (hT : TabOk P T) (hF : FOk P F) (hm : P.follows .mixedOrders = true) {n l : Nat} {rc0 rc : Loop} {env : Env} {ps : Array Tmp} {assign body : Code} (h0 : Laid n env ps assign body rc0) {vs : List Value} {w : World} {R : Bool → World → Prop} {annA annB : Ann}
    (hl : w.heap[l]? = some (.loop rc)) (h1 : rc.params = rc0.params ∧ rc.assign = rc0.assign ∧ rc.body = rc0.body ∧ rc.tmps = rc0.tmps)
    (hn : (Nat.beq vs.length ps.toList.length && ps.toList.all (Nat.blt · n)) = true)
    (h : vcY P T F n assign annA (putE ps.toList vs env) w fun e env' w' => match e with
      | .normal => beginQ l (fun w1 => vcY P T F n body annB env' w1 fun e _ w2 => endQ l R e w2) w'
      | _ => False) : YieldTo P l vs.toArray w R := by
  obtain ⟨e1, e2, e3, e4⟩ := h1
  rw [Bool.and_eq_true] at hn
  have hsz : vs.toArray.size = rc.params.size := by rw [e1, h0.params]; simpa using Nat.eq_of_beq_eq_true hn.1
  have hy := run_yield (P := P) hl hsz
  refine ⟨_, _, _, _, hy, fun r m => roundIn_of_wpIn trivial ?_⟩
  have hs : Sat n (putE ps.toList vs env) ⟨(rc.params.zip vs.toArray).foldl (fun tmps (t, a) => tmps.setIfInBounds t a) rc.tmps, []⟩ := by
    have : (rc.params.zip vs.toArray).foldl (fun tmps (t, a) => tmps.setIfInBounds t a) rc.tmps = setT ps.toList vs rc.tmps := by
      rw [← setT_eq, e1, h0.params, ← Array.foldl_toList, Array.toList_zip]
    rw [this, e4]
    exact sat_putE hn.2 h0.sat
  rw [e2, e3, h0.assign, h0.body]
  refine wpIn_mono (vcY_sound (z := some l) hT hF hm assign annA _ w _ _ hs h) fun e a w' ⟨hok, env', hs', hf', hq⟩ => ?_
  cases e with
  | normal =>
    obtain ⟨rc1, hl1, hst, hq⟩ := hq
    refine ⟨_, run_beginRound hl1 hst, wpIn_mono (vcY_sound (z := some l) hT hF hm body annB _ _ _ _ hs' hq) fun e a w' ⟨hok, env', hs', hf', rc2, hl2, hq⟩ => ?_⟩
    cases e with
    | normal => exact ⟨_, _, run_endRound none hl2, _, rfl, hq⟩
    | ret => exact ⟨_, _, run_endRound (some .ret) hl2, _, rfl, hq⟩
    | exit id => exact ⟨_, _, run_endRound (some (.exit id)) hl2, _, rfl, hq⟩
    | _ => exact hq.elim
  | panic c => exact hok.elim
  | outgrown => exact hok.elim
  | _ => exact hq.elim
end Go.Vc
