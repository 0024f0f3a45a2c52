import Derived.Test.YtibpbbjlecohiaaVc4
namespace Go.Vc
variable {P : Program} {T : Tab} {F : List Nat}

def upd (n : Nat) (env : Env) (dst : Option Nat) (v : Value) (C : Env → Prop) : Prop := match dst with
  | none => C env
  | some d => bif Nat.blt d n then C ((d, v) :: env) else False
def gSlot (all : List Oper) (j : Nat) : Option Nat := match all[j]? with
  | some o => o.dst
  | none => none
/-- of what kind a part of a pair is, by the first operation that takes it out -/
def entK (T : Tab) (d i : Nat) : List Oper → Kd
  | [] => .any
  | o :: r => match o.op with
    | .extract (.tmp x) j => bif Nat.beq x d && Nat.beq j i then (match tk T o.type with
      | some ⟨_, .one k, _, _, _, _⟩ => k
      | _ => .any) else entK T d i r
    | _ => entK T d i r
/-- an operation, the pair of a round over a map told by its parts' kinds -/
def vcOpE (P : Program) (T : Tab) (F : List Nat) (all : List Oper) (env : Env) (o : Oper) (w : World) (C : Value → World → Prop) : Prop := match o.op, o.dst with
  | .entry x, some d => match opv env x with
    | some a => exKd (entK T d 0 all) fun u => exKd (entK T d 1 all) fun v => ∃ w', (Instr.entry a).run P w = .ok (.tuple #[u, v]) w' ∧ C (.tuple #[u, v]) w'
    | none => False
  | _, _ => vcOp P T F env o w C
theorem vcOpE_sound {F : List Nat} (hT : TabOk P T) (hF : FOk P F) {n : Nat} {env : Env} {a : Act} (hs : Sat n env a) {all : List Oper} {o : Oper} {w : World} {C : Value → World → Prop} (h : vcOpE P T F all env o w C)
    {K : Act → World → Prop} {Q : Exit → Act → World → Prop} (hK : ∀ v w', C v w' → K (a.put o.dst v) w') : o.wp P a w K Q := by
  unfold vcOpE at h
  split at h
  · rename_i x d ho hd
    split at h
    · rename_i v hv
      obtain ⟨u, h⟩ := exKd_any h
      obtain ⟨u', w', hr, hC⟩ := exKd_any h
      refine wp_of_run (v := .tuple #[u, u']) (w' := w') ?_ (hK _ _ hC)
      simp [execOp, ho, hs.eval hv, hr]
    · exact h.elim
  · exact vcOp_sound hT hF hs h hK
def vcOps (P : Program) (T : Tab) (F : List Nat) (n : Nat) (all : List Oper) : List Oper → Env → World → (Env → World → Prop) → Prop
  | [], env, w, Q => Q env w
  | o :: r, env, w, Q => match o.guard with
    | none => vcOpE P T F all env o w fun v w' => upd n env o.dst v fun env' => vcOps P T F n all r env' w' Q
    | some (j, want) => match gSlot all j with
      | none => False
      | some d => match lk env d with
        | none => False
        | some (.bool b) => bcase b
            (bif want then vcOp P T F ((d, .bool true) :: env) o w fun v w' => upd n ((d, .bool true) :: env) o.dst v fun env' => vcOps P T F n all r env' w' Q
              else upd n ((d, .bool true) :: env) o.dst undef fun env' => vcOps P T F n all r env' w Q)
            (bif want then upd n ((d, .bool false) :: env) o.dst undef fun env' => vcOps P T F n all r env' w Q
              else vcOp P T F ((d, .bool false) :: env) o w fun v w' => upd n ((d, .bool false) :: env) o.dst v fun env' => vcOps P T F n all r env' w' Q)
        | some _ => upd n env o.dst undef fun env' => vcOps P T F n all r env' w Q

theorem blt_lt {a b : Nat} (h : Nat.blt a b = true) : a < b := Nat.le_of_ble_eq_true h
def boolIs (u : Value) (want : Bool) : Bool := match u with
  | .bool b => b == want
  | _ => false
theorem boolIs_not {u : Value} {want : Bool} (h : ∀ b, u = .bool b → False) : boolIs u want = false := by
  cases u with
  | bool b => exact (h b rfl).elim
  | _ => rfl
structure Fr (W : List Nat) (a0 a : Act) : Prop where
  defers : a.defers = a0.defers
  same : ∀ i, i ∉ W → a.tmps[i]? = a0.tmps[i]?
theorem Fr.refl (W : List Nat) (a : Act) : Fr W a a := ⟨rfl, fun _ _ => rfl⟩
theorem Fr.put {W : List Nat} {a0 a : Act} (h : Fr W a0 a) {dst : Option Nat} (hd : ∀ d, dst = some d → d ∈ W) (v : Value) : Fr W a0 (a.put dst v) := ⟨by cases dst <;> exact h.defers, fun i hi => by
  cases dst with
  | none => exact h.same i hi
  | some d =>
    have : d ≠ i := fun e => hi (e ▸ hd d rfl)
    simp [Act.put, Array.getElem?_setIfInBounds_ne this, h.same i hi]⟩
theorem Sat.upd {n : Nat} {env : Env} {a : Act} (hs : Sat n env a) {dst : Option Nat} {v : Value} {C : Env → Prop} (h : upd n env dst v C) : ∃ env', C env' ∧ Sat n env' (a.put dst v) := by
  unfold Vc.upd at h
  split at h
  · exact ⟨env, h, by simpa [Act.put] using hs⟩
  · rename_i d
    cases hb : Nat.blt d n with
    | false => rw [hb] at h; exact h.elim
    | true =>
      rw [hb] at h
      exact ⟨_, h, hs.put (blt_lt hb) v⟩
theorem yielded_eq {n : Nat} {env : Env} {a : Act} (hs : Sat n env a) {all : List Oper} {j d : Nat} {u : Value} (hg : gSlot all j = some d) (hu : lk env d = some u) :
    yielded all.toArray a.tmps j = match u with | .bool b => some b | _ => none := by
  unfold gSlot at hg
  split at hg
  · rename_i o ho
    have h1 : all.toArray[j]? = some o := by simpa using ho
    simp only [yielded, h1, Option.bind_some, hg, hs.get d u hu]
    cases u <;> rfl
  · cases hg

theorem vcOps_sound (hT : TabOk P T) (hF : FOk P F) {n : Nat} {all : List Oper} {W : List Nat} {a0 : Act} {Q : Env → World → Prop} {Q' : Exit → Act → World → Prop}
    (hQ : ∀ env a w, Sat n env a → Fr W a0 a → Q env w → Q' .normal a w) : ∀ (r : List Oper) (env : Env) (w : World) (a : Act), (∀ o ∈ r, ∀ d, o.dst = some d → d ∈ W) → Sat n env a → Fr W a0 a →
    vcOps P T F n all r env w Q → wpList P all.toArray Q' r a w
  | [], env, w, a, _, hs, hf, h => hQ env a w hs hf h
  | o :: r, env, w, a, hd, hs, hf, h => by
    have hd0 := hd o (by simp)
    have hd' : ∀ o ∈ r, ∀ d, o.dst = some d → d ∈ W := fun o' ho' => hd o' (by simp [ho'])
    have run : ∀ env', Sat n env' a → (vcOp P T F env' o w fun v w' => upd n env' o.dst v fun env'' => vcOps P T F n all r env'' w' Q) → o.wp P a w (wpList P all.toArray Q' r) Q' := fun env' hs' hv =>
      vcOp_sound hT hF hs' hv fun v w' hu => by
        obtain ⟨env'', h1, h2⟩ := hs'.upd hu
        exact vcOps_sound hT hF hQ r env'' w' _ hd' h2 (hf.put hd0 v) h1
    have runE : ∀ env', Sat n env' a → (vcOpE P T F all env' o w fun v w' => upd n env' o.dst v fun env'' => vcOps P T F n all r env'' w' Q) → o.wp P a w (wpList P all.toArray Q' r) Q' := fun env' hs' hv =>
      vcOpE_sound hT hF hs' hv fun v w' hu => by
        obtain ⟨env'', h1, h2⟩ := hs'.upd hu
        exact vcOps_sound hT hF hQ r env'' w' _ hd' h2 (hf.put hd0 v) h1
    have skip : ∀ env', Sat n env' a → (upd n env' o.dst undef fun env'' => vcOps P T F n all r env'' w Q) → wpList P all.toArray Q' r (a.put o.dst undef) w := fun env' hs' hu => by
      obtain ⟨env'', h1, h2⟩ := hs'.upd hu
      exact vcOps_sound hT hF hQ r env'' w _ hd' h2 (hf.put hd0 undef) h1
    simp only [vcOps] at h
    unfold wpList
    split at h
    · rename_i hg
      rw [if_pos (by simp [Region.wanted, hg])]
      exact .inl (runE env hs h)
    · rename_i j want hg
      split at h
      · exact h.elim
      · rename_i d hgs
        have hw : ∀ u, lk env d = some u → Region.wanted o (yielded all.toArray a.tmps) = boolIs u want := fun u hu => by
          simp only [Region.wanted, hg, yielded_eq hs hgs hu]
          cases u <;> rfl
        split at h
        · exact h.elim
        · rename_i b hb
          rw [hw _ hb]
          refine bcase_elim h (fun e h => ?_) (fun e h => ?_)
          · subst e
            have hs' := hs.note (u := .bool true) hb rfl
            cases want
            · rw [if_neg (by decide)]; exact skip _ hs' h
            · rw [if_pos (by decide)]; exact .inl (run _ hs' h)
          · subst e
            have hs' := hs.note (u := .bool false) hb rfl
            cases want
            · rw [if_pos (by decide)]; exact .inl (run _ hs' h)
            · rw [if_neg (by decide)]; exact skip _ hs' h
        · rename_i u hn hu
          rw [hw _ hu]
          have : boolIs u want = false := boolIs_not hn
          rw [if_neg (by rw [this]; simp)]
          exact skip env hs h

/-! ## regions that draw their order -/
section
variable {ops : Array Oper} {md : Region.Mode} {Q : Exit → Act → World → Prop} {S : World → Prop}
def anyH (P : Program) (md : Region.Mode) (ops : Array Oper) (Q : Exit → Act → World → Prop) (S : World → Prop) (n : Nat) (L : Array Bool → Act → World → Prop) : Nat → Array Bool → Act → World → Prop
  | 0, listed, a, w => L listed a w
  | f + 1, listed, a, w => Region.ready md ops listed ≠ [] ∧ ∀ i ∈ Region.ready md ops listed, i < n ∧ wpOp P ops Q i (fun a' w' => S w' ∧ anyH P md ops Q S n L f (listed.setIfInBounds i true) a' w') a w
theorem any_of_head {n g : Nat} {L : Array Bool → Act → World → Prop} (hL : ∀ listed a w, L listed a w → wpAny P md ops Q g listed a w) :
    ∀ (f : Nat) (listed : Array Bool) (a : Act) (w : World), anyH P md ops Q S n L f listed a w → wpAny P md ops Q (f + g) listed a w
  | 0, listed, a, w, h => by rw [Nat.zero_add]; exact hL _ _ _ h
  | f + 1, listed, a, w, h => by
    rw [show f + 1 + g = (f + g) + 1 by omega]
    exact ⟨fun e => absurd e h.1, fun i hi => wpOp_mono (fun a' w' h' => any_of_head hL f _ a' w' h'.2) (h.2 i hi).2⟩
def TailW (md : Region.Mode) (ops : Array Oper) (n : Nat) : Prop := ∀ listed, HeadInv md ops n listed → ∀ i, i < n → listed.getD i true = false → ∀ t, n ≤ t → t ∉ Region.ready md ops listed
theorem anyH_first {n i : Nat} {oi : Oper} {v : Value} {L : Array Bool → Act → World → Prop} (hi : ops[i]? = some oi) (hsel : Region.noSelect ops = true)
    (hQ : ∀ c a w, ¬ Q (.panic c) a w) (ht : TailW md ops n) (hin : i < n) (hdone : ∀ listed a w, L listed a w → ∀ j ∈ Region.ready md ops listed, n ≤ j) :
    ∀ (f : Nat) (listed : Array Bool) (a : Act) (w : World), HeadInv md ops n listed →
      (∀ j oj, ops[j]? = some oj → j ≠ i → listed.getD j true = false → (∀ e ∈ oj.after, Region.binds md e = true → e.on ≠ i) → oi.apart ops oj = true) →
      i ∈ Region.ready md ops listed → YieldsIf P ops S oi v a → S w → anyH P md ops Q S n L f (listed.setIfInBounds i true) (a.put oi.dst v) w → anyH P md ops Q S n L (f + 1) listed a w := by
  intro f
  induction f with
  | zero =>
    intro listed a w inv _ hr hy hS H
    refine ⟨fun e => (by rw [e] at hr; cases hr), fun j hj => ?_⟩
    have hjn : j < n := Nat.lt_of_not_le fun h => ht listed inv i hin (mem_ready.1 hr).1 j h hj
    refine ⟨hjn, ?_⟩
    by_cases e : j = i
    · subst e; exact hy.wpOp hi hS ⟨hS, H⟩
    · have := hdone _ _ _ H j (ready_mono hj e); omega
  | succ f ih =>
    intro listed a w inv hfree hr hy hS H
    refine ⟨fun e => (by rw [e] at hr; cases hr), fun j hj => ?_⟩
    have hjn : j < n := Nat.lt_of_not_le fun h => ht listed inv i hin (mem_ready.1 hr).1 j h hj
    refine ⟨hjn, ?_⟩
    by_cases e : j = i
    · subst e; exact hy.wpOp hi hS ⟨hS, H⟩
    · have h1 := (H.2 j (ready_mono hj e)).2
      obtain ⟨hjun, oj, hoj, hall⟩ := mem_ready.1 hj
      have hno : ∀ e ∈ oj.after, Region.binds md e = true → e.on ≠ i := fun e he hb heq => by
        have h2 := hall e he hb
        rw [heq, getD_both (mem_ready.1 hr).1] at h2
        cases h2
      have h2 := wpOp_putIf hoj (hfree j oj hoj e hjun hno) (fun cs b => Region.noSelect_spec hsel i oi cs b hi) (fun cs b => Region.noSelect_spec hsel j oj cs b hoj) (fun c a w h => absurd h (hQ c _ w)) hy h1
      have hfree' : ∀ k ok, ops[k]? = some ok → k ≠ i → (listed.setIfInBounds j true).getD k true = false → (∀ e ∈ ok.after, Region.binds md e = true → e.on ≠ i) → oi.apart ops ok = true :=
        fun k ok hk hki hun hno' => hfree k ok hk hki (by
          by_cases hjk : j = k
          · subst hjk; exact hjun
          · rwa [getD_set_ne true hjk] at hun) hno'
      refine wpOp_mono (fun a' w' h3 => ⟨h3.2.1, ih (listed.setIfInBounds j true) a' w' (inv.set hj hjn) hfree' (ready_mono hr (Ne.symm e)) h3.1 h3.2.1 ?_⟩) h2
      rw [Array.setIfInBounds_comm _ _ e]
      exact h3.2.2
end

/-- 'bag': effects that are ready together, taken in whatever order -/
def bagOk (ops : Array Oper) (n : Nat) : Nat → List Nat → Array Bool → Bool
  | 0, _, L => Region.seqB .any ops (ops.size - n) n L
  | f + 1, ids, L => !(Region.ready .any ops L).isEmpty && (Region.ready .any ops L).all fun i => Nat.blt i n && ids.contains i && bagOk ops n f (ids.erase i) (L.setIfInBounds i true)
/-- 'ord': the head's operations in the order in which they are taken; true: one that may be taken first (it reads at the most), false: one that comes up alone -/
def ordOk (ops : Array Oper) (n : Nat) (fin : Array Bool → Bool) : List (Nat × Bool) → Array Bool → Bool
  | [], L => fin L
  | (i, true) :: r, L => Nat.blt i n && (Region.ready .any ops L).contains i && Region.free .any ops L i && ordOk ops n fin r (L.setIfInBounds i true)
  | (i, false) :: r, L => Nat.blt i n && decide (Region.ready .any ops L = [i]) && ordOk ops n fin r (L.setIfInBounds i true)
/-- parts of the head: at the begin of each what is read may be chosen anew -/
def segsOk (ops : Array Oper) (n : Nat) (bag : List Nat) : List (List (Nat × Bool)) → Array Bool → Bool
  | [], L => bagOk ops n bag.length bag L
  | s :: r, L => ordOk ops n (segsOk ops n bag r) s L
def segsLen : List (List (Nat × Bool)) → Nat
  | [] => 0
  | s :: r => s.length + segsLen r
def drawOk (ops : Array Oper) (n : Nat) (segs : List (List (Nat × Bool))) (bag : List Nat) : Bool :=
  Region.noSelect ops && Nat.beq (segsLen segs + bag.length) n && (Nat.beq n ops.size || (Nat.blt n ops.size && Region.sinkB .any ops n && Region.chainB .any ops n)) && segsOk ops n bag segs (Array.replicate ops.size false)
theorem tailW_of {ops : Array Oper} {n : Nat} (h : (Nat.beq n ops.size || (Nat.blt n ops.size && Region.sinkB .any ops n && Region.chainB .any ops n)) = true) : TailW .any ops n := by
  intro listed inv i hi hun t ht hr
  rw [Bool.or_eq_true] at h
  rcases h with h | h
  · have hn := Nat.eq_of_beq_eq_true h
    obtain ⟨_, o, ho, _⟩ := mem_ready.1 hr
    have := (Array.getElem?_eq_some_iff.1 ho).1
    omega
  · simp only [Bool.and_eq_true] at h
    exact tail_waits h.1.2 h.2 (blt_lt h.1.1) inv _ i rfl hi hun t ht hr

section
variable (P) (T) (F) (n : Nat) (all : List Oper) (rd : Addr → List Kd → (List Value → Prop) → Prop) (pe : Option Addr → Option Addr → Prop) (S : World → Prop)
def floatOp (env : Env) (o : Oper) (C : Value → Prop) : Prop := match pureV T env o with
  | some v => C v
  | none => match qOp rd pe T env o C with
    | some X => X
    | none => False
def vcH : List (Nat × Bool) → Env → World → (Env → World → Prop) → Prop
  | [], env, w, Q => Q env w
  | (i, fl) :: r, env, w, Q => match all[i]? with
    | none => False
    | some o => match o.guard with
      | none => bif fl then floatOp T rd pe env o fun v => upd n env o.dst v fun env' => vcH r env' w Q
          else vcE P T F env o w fun v w' => S w' ∧ upd n env o.dst v fun env' => vcH r env' w' Q
      | some (j, want) => match gSlot all j with
        | none => False
        | some d => match lk env d with
          | none => False
          | some (.bool b) => bcase b
              (bif want then (bif fl then floatOp T rd pe ((d, .bool true) :: env) o fun v => upd n ((d, .bool true) :: env) o.dst v fun env' => vcH r env' w Q
                  else vcE P T F ((d, .bool true) :: env) o w fun v w' => S w' ∧ upd n ((d, .bool true) :: env) o.dst v fun env' => vcH r env' w' Q)
                else upd n ((d, .bool true) :: env) o.dst undef fun env' => vcH r env' w Q)
              (bif want then upd n ((d, .bool false) :: env) o.dst undef fun env' => vcH r env' w Q
                else (bif fl then floatOp T rd pe ((d, .bool false) :: env) o fun v => upd n ((d, .bool false) :: env) o.dst v fun env' => vcH r env' w Q
                  else vcE P T F ((d, .bool false) :: env) o w fun v w' => S w' ∧ upd n ((d, .bool false) :: env) o.dst v fun env' => vcH r env' w' Q))
          | some _ => upd n env o.dst undef fun env' => vcH r env' w Q
end
/-- what is listed behind the ordered ones -/
def listedBy : List (Nat × Bool) → Array Bool → Array Bool
  | [], L => L
  | p :: r, L => listedBy r (L.setIfInBounds p.1 true)
def conjL {α : Type} (C : α → Prop) : List α → Prop
  | [] => True
  | [i] => C i
  | i :: r => C i ∧ conjL C r
theorem conjL_mem {α : Type} {C : α → Prop} : ∀ {l : List α}, conjL C l → ∀ i ∈ l, C i
  | [], _, _, h => by cases h
  | [a], h, i, hi => by simp at hi; subst hi; exact h
  | a :: b :: r, h, i, hi => by
    rcases List.mem_cons.1 hi with rfl | hi
    · exact h.1
    · exact conjL_mem (l := b :: r) h.2 i hi
def vcBag (P : Program) (T : Tab) (F : List Nat) (n : Nat) (all : List Oper) (S : World → Prop) : Nat → Array Bool → Env → World → (Env → World → Prop) → Prop
  | 0, _, env, w, Q => Q env w
  | f + 1, L, env, w, Q => conjL (fun i => match all[i]? with
    | some o => match o.guard with
      | none => vcOp P T F env o w fun v w' => S w' ∧ upd n env o.dst v fun env' => vcBag P T F n all S f (L.setIfInBounds i true) env' w' Q
      | some _ => False
    | none => False) (Region.ready .any all.toArray L)
theorem vcBag_sound (hT : TabOk P T) (hF : FOk P F) {S : World → Prop} {n nh : Nat} {all : List Oper} {W : List Nat} {a0 : Act} (hd : ∀ o ∈ all, ∀ d, o.dst = some d → d ∈ W) {Q : Env → World → Prop} {Q' : Exit → Act → World → Prop}
    {L : Array Bool → Act → World → Prop} (hL : ∀ listed env a w, Sat n env a → Fr W a0 a → Region.seqB .any all.toArray (all.toArray.size - nh) nh listed = true → Q env w → L listed a w) :
    ∀ (f : Nat) (ids : List Nat) (listed : Array Bool) (env : Env) (a : Act) (w : World), Sat n env a → Fr W a0 a → S w → bagOk all.toArray nh f ids listed = true → vcBag P T F n all S f listed env w Q →
      anyH P .any all.toArray Q' S nh L f listed a w
  | 0, ids, listed, env, a, w, hs, hf, hS, ho, h => hL listed env a w hs hf ho h
  | f + 1, ids, listed, env, a, w, hs, hf, hS, ho, h => by
    simp only [bagOk, Bool.and_eq_true, List.all_eq_true] at ho
    refine ⟨fun e => (by rw [e] at ho; simp at ho), fun i hi => ?_⟩
    obtain ⟨⟨hin, hc⟩, hb⟩ := ho.2 i hi
    have hi' := conjL_mem h i hi
    refine ⟨blt_lt hin, ?_⟩
    cases hoi : all[i]? with
    | none => rw [hoi] at hi'; exact hi'.elim
    | some o =>
      rw [hoi] at hi'
      simp only [] at hi'
      split at hi'
      · rename_i hg
        have hoi' : all.toArray[i]? = some o := by simpa using hoi
        unfold wpOp
        simp only [hoi', show Region.wanted o (yielded all.toArray a.tmps) = true by simp [Region.wanted, hg], if_true]
        refine .inl (vcOp_sound hT hF hs hi' fun v w' ⟨hS', hu⟩ => ?_)
        obtain ⟨env'', h1, h2⟩ := hs.upd hu
        exact ⟨hS', vcBag_sound hT hF hd hL f _ _ env'' _ w' h2 (hf.put (hd o (List.mem_of_getElem? hoi)) v) hS' hb h1⟩
      · exact hi'.elim
theorem floatOp_elim (hT : TabOk P T) {S : World → Prop} {rd : Addr → List Kd → (List Value → Prop) → Prop} {pe : Option Addr → Option Addr → Prop} (hr : RdOk S rd) (hp : PeOk P S pe)
    {n : Nat} {env : Env} {a : Act} (hs : Sat n env a) {o : Oper} {C : Value → Prop} (h : floatOp T rd pe env o C) : ∃ v, C v ∧ ∀ w, S w → (execOp a.eval o).run P w = .ok (.value v) w := by
  unfold floatOp at h
  split at h
  · rename_i v hv; exact ⟨v, h, fun w _ => pureV_run hT hs hv w⟩
  · split at h
    · rename_i X hX; exact qOp_elim hT hr hp hs hX h
    · exact h.elim

theorem vcH_sound (hT : TabOk P T) (hF : FOk P F) {S : World → Prop} {rd : Addr → List Kd → (List Value → Prop) → Prop} {pe : Option Addr → Option Addr → Prop} (hr : RdOk S rd) (hp : PeOk P S pe)
    {n nh : Nat} {all : List Oper} {W : List Nat} {a0 : Act} (hd : ∀ o ∈ all, ∀ d, o.dst = some d → d ∈ W) {Q : Env → World → Prop} {Q' : Exit → Act → World → Prop} (hpan : ∀ c a w, ¬ Q' (.panic c) a w)
    (hsel : Region.noSelect all.toArray = true) (htail : TailW .any all.toArray nh)
    {L : Array Bool → Act → World → Prop} {m : Nat} {fin : Array Bool → Bool} {Lf : Array Bool} (hL : ∀ env a w, HeadInv .any all.toArray nh Lf → Sat n env a → Fr W a0 a → S w → fin Lf = true → Q env w → anyH P .any all.toArray Q' S nh L m Lf a w)
    (hdone : ∀ listed a w, L listed a w → ∀ j ∈ Region.ready .any all.toArray listed, nh ≤ j) :
    ∀ (ord : List (Nat × Bool)) (listed : Array Bool) (env : Env) (a : Act) (w : World), listedBy ord listed = Lf → HeadInv .any all.toArray nh listed → Sat n env a → Fr W a0 a → S w →
      ordOk all.toArray nh fin ord listed = true → vcH P T F n all rd pe S ord env w Q → anyH P .any all.toArray Q' S nh L (ord.length + m) listed a w
  | [], listed, env, a, w, hLf, inv, hs, hf, hS, ho, h => by
    rw [List.length_nil, Nat.zero_add]
    have hLf : listed = Lf := hLf
    subst hLf
    exact hL env a w inv hs hf hS ho h
  | (i, fl) :: r, listed, env, a, w, hLf, inv, hs, hf, hS, ho, h => by
    rw [List.length_cons, show r.length + 1 + m = r.length + m + 1 by omega]
    simp only [vcH] at h
    cases hoi : all[i]? with
    | none => rw [hoi] at h; exact h.elim
    | some o =>
      rw [hoi] at h
      simp only [] at h
      have hoi' : all.toArray[i]? = some o := by simpa using hoi
      have hd0 := hd o (List.mem_of_getElem? hoi)
      -- what an operation that may be taken first does
      have float : fl = true → ∀ v, YieldsIf P all.toArray S o v a → (∃ env', Sat n env' (a.put o.dst v) ∧ vcH P T F n all rd pe S r env' w Q) → anyH P .any all.toArray Q' S nh L (r.length + m + 1) listed a w := by
        rintro rfl v hy ⟨env', hs', h'⟩
        simp only [ordOk, Bool.and_eq_true] at ho
        have hin : i < nh := blt_lt ho.1.1.1
        have hri : i ∈ Region.ready .any all.toArray listed := by simpa using ho.1.1.2
        exact anyH_first hoi' hsel hpan htail hin hdone (r.length + m) listed a w inv (Region.free_spec hoi' ho.1.2) hri hy hS
          (vcH_sound hT hF hr hp hd hpan hsel htail hL hdone r _ env' _ w hLf (inv.set hri hin) hs' (hf.put hd0 v) hS ho.2 h')
      have alone : fl = false → wpOp P all.toArray Q' i (fun a' w' => S w' ∧ ∃ env', Sat n env' a' ∧ Fr W a0 a' ∧ vcH P T F n all rd pe S r env' w' Q) a w → anyH P .any all.toArray Q' S nh L (r.length + m + 1) listed a w := by
        rintro rfl h'
        simp only [ordOk, Bool.and_eq_true, decide_eq_true_eq] at ho
        have hin : i < nh := blt_lt ho.1.1
        have hri : i ∈ Region.ready .any all.toArray listed := by rw [ho.1.2]; simp
        refine ⟨by rw [ho.1.2]; simp, fun j hj => ?_⟩
        rw [ho.1.2] at hj
        have : j = i := by simpa using hj
        subst this
        refine ⟨hin, wpOp_mono (fun a' w' ⟨hS', env', hs', hf', h'⟩ => ⟨hS', ?_⟩) h'⟩
        exact vcH_sound hT hF hr hp hd hpan hsel htail hL hdone r _ env' a' w' hLf (inv.set hri hin) hs' hf' hS' ho.2 h'
      have run : ∀ env', Sat n env' a → Region.wanted o (yielded all.toArray a.tmps) = true →
          (bif fl then floatOp T rd pe env' o fun v => upd n env' o.dst v fun env'' => vcH P T F n all rd pe S r env'' w Q
            else vcE P T F env' o w fun v w' => S w' ∧ upd n env' o.dst v fun env'' => vcH P T F n all rd pe S r env'' w' Q) → anyH P .any all.toArray Q' S nh L (r.length + m + 1) listed a w := by
        intro env' hs' hw h'
        cases fl
        · simp only [cond_false] at h'
          refine alone rfl ?_
          unfold wpOp
          simp only [hoi', hw, if_true]
          refine .inl (vcE_sound hT hF hs' h' fun v w' ⟨hS', hu⟩ => ?_)
          obtain ⟨env'', h1, h2⟩ := hs'.upd hu
          exact ⟨hS', env'', h2, hf.put hd0 v, h1⟩
        · simp only [cond_true] at h'
          obtain ⟨v, hu, hv⟩ := floatOp_elim hT hr hp hs' h'
          obtain ⟨env'', h1, h2⟩ := hs'.upd hu
          exact float rfl v (.inl ⟨hw, hv⟩) ⟨env'', h2, h1⟩
      have skip : ∀ env', Sat n env' a → Region.wanted o (yielded all.toArray a.tmps) = false → (upd n env' o.dst undef fun env'' => vcH P T F n all rd pe S r env'' w Q) →
          anyH P .any all.toArray Q' S nh L (r.length + m + 1) listed a w := by
        intro env' hs' hw hu
        obtain ⟨env'', h1, h2⟩ := hs'.upd hu
        cases fl
        · refine alone rfl ?_
          unfold wpOp
          simp only [hoi', hw, Bool.false_eq_true, if_false]
          exact ⟨hS, env'', h2, hf.put hd0 undef, h1⟩
        · exact float rfl undef (.inr ⟨hw, rfl⟩) ⟨env'', h2, h1⟩
      split at h
      · rename_i hg
        exact run env hs (by simp [Region.wanted, hg]) h
      · rename_i j want hg
        split at h
        · exact h.elim
        · rename_i d hgs
          have hw : ∀ u, lk env d = some u → Region.wanted o (yielded all.toArray a.tmps) = boolIs u want := fun u hu => by
            simp only [Region.wanted, hg, yielded_eq hs hgs hu]
            cases u <;> rfl
          split at h
          · exact h.elim
          · rename_i b hb
            have hw' := hw _ hb
            refine bcase_elim h (fun e h => ?_) (fun e h => ?_)
            · subst e
              have hs' := hs.note (u := .bool true) hb rfl
              cases want
              · exact skip _ hs' (by rw [hw']; rfl) h
              · exact run _ hs' (by rw [hw']; rfl) h
            · subst e
              have hs' := hs.note (u := .bool false) hb rfl
              cases want
              · exact run _ hs' (by rw [hw']; rfl) h
              · exact skip _ hs' (by rw [hw']; rfl) h
          · rename_i u hn hu
            have : boolIs u want = false := boolIs_not hn
            exact skip env hs (by rw [hw _ hu, this]) h
theorem anyH_weak {md : Region.Mode} {ops : Array Oper} {Q' : Exit → Act → World → Prop} {S S' : World → Prop} {n : Nat} {L : Array Bool → Act → World → Prop} (hS : ∀ w, S' w → S w) : ∀ (f : Nat) (listed : Array Bool) (a : Act) (w : World), anyH P md ops Q' S' n L f listed a w → anyH P md ops Q' S n L f listed a w
  | 0, _, _, _, h => h
  | f + 1, _, _, _, h => ⟨h.1, fun i hi => ⟨(h.2 i hi).1, wpOp_mono (fun _ _ h' => ⟨hS _ h'.1, anyH_weak hS f _ _ _ h'.2⟩) (h.2 i hi).2⟩⟩
end Go.Vc
