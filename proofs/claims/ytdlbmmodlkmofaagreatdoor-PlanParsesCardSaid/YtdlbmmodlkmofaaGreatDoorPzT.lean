import Derived.Test.YtdlbmmodlkmofaaGreatDoorPzS
set_option maxRecDepth 20000
namespace Go.Proofs.YtdlbmmodlkmofaaGreatDoor
open Go Go.Vc Go.RowKit
/-! # numbers and words, read -/
theorem ba_get (xs : List UInt8) (i : Nat) : (⟨xs.toArray⟩ : ByteArray)[i]? = xs[i]? := by
  by_cases h : i < xs.length
  · rw [List.getElem?_eq_getElem h]
    exact (getElem?_pos _ i (by simpa [ByteArray.size] using h)).trans (by rfl)
  · rw [List.getElem?_eq_none (by omega)]
    exact getElem?_neg _ i (by simpa [ByteArray.size] using h)
theorem s_get (s : ByteArray) (i : Nat) : s[i]? = s.data.toList[i]? := by
  have := ba_get s.data.toList i
  rwa [ba_back] at this
theorem onPtr_at {q : Option Addr} {a : Addr} {C : Addr → Prop} (h : q = some a) (hc : C a) : onPtr q C := by subst h; exact onPtr_mk hc
def bad0 (l : List UInt8) : Prop := l = [] ∨ 18 < l.length ∨ (1 < l.length ∧ l[0]? = some 48)
instance (l : List UInt8) : Decidable (bad0 l) := by unfold bad0; infer_instance
def numF (l : List UInt8) : Option Nat := if bad0 l then none else Lib.decFrom 0 l
def isD (b : UInt8) : Prop := 48 ≤ b.toNat ∧ b.toNat ≤ 57
theorem dec_all : ∀ (l : List UInt8) (acc : Nat), (∀ b ∈ l, isD b) → ∃ n, Lib.decFrom acc l = some n
  | [], acc, _ => ⟨acc, rfl⟩
  | b :: l, acc, h => by
    have hb : 48 ≤ b.toNat ∧ b.toNat ≤ 57 := h b (by simp)
    obtain ⟨n, hn⟩ := dec_all l (acc * 10 + (b.toNat - 48)) fun x hx => h x (by simp [hx])
    exact ⟨n, by rw [Lib.decFrom, Lib.digitVal, if_pos hb]; exact hn⟩
theorem dec_bad : ∀ (l : List UInt8) (acc : Nat) {b : UInt8}, b ∈ l → ¬ isD b → Lib.decFrom acc l = none
  | c :: l, acc, b, hm, hb => by
    rw [Lib.decFrom, Lib.digitVal]
    by_cases hc : 48 ≤ c.toNat ∧ c.toNat ≤ 57
    · rw [if_pos hc]
      rcases List.mem_cons.1 hm with rfl | hm
      · exact absurd hc hb
      · exact dec_bad l _ hm hb
    · rw [if_neg hc]
abbrev numV (o : Option Nat) : Value := .tuple #[.int .i64 ((o.getD 0 : Nat) : Int), .bool o.isSome]
theorem nil58 (w : World) : (eqSem .eql 58 (.tmp 46) (.const Value.nilIface) Value.nilIface Value.nilIface).run Tryz.prog w = .ok (.bool true) w := by
  simp only [eqSem, Sem.run_bind]
  rw [show (eqGuard BinOp.eql 58 (Operand.tmp 46) (Operand.const Value.nilIface) Value.nilIface Value.nilIface) = pure () from rfl]
  rw [Sem.run_pure]
  simp only [Result.andThen]
  simp [go_sem]
theorem number73 (s : ByteArray) (w : World) : Calls Tryz.prog 73 #[.string s] w (Ret fun v w' => v = numV (numF s.data.toList) ∧ Chg none_ w w') := by
  refine f73.calls _ ?_
  unfold f73.wp
  have hz := s_size s
  refine ⟨fun w' => w = w' ∧ ¬ bad0 s.data.toList, ?_, ?_⟩
  rotate_left
  · have no : bad0 s.data.toList → (Value.tuple #[.int .i64 0, .bool false] = numV (numF s.data.toList) ∧ Chg none_ w w) := fun h => ⟨by rw [numF, if_pos h]; rfl, Chg.refl _ _⟩
    refine bc (fun h => no (.inl ?_)) fun h => bc (fun h2 => no (.inr (.inl ?_))) fun h2 => bc (fun h3 => ?_) fun h3 => ⟨rfl, ?_⟩
    · rw [ByteArray.toList_eq, ByteArray.toList_eq] at h; simpa using h
    · have := of_decide_eq_true h2; omega
    · have h3 : 1 < s.size := by have := of_decide_eq_true h3; omega
      obtain ⟨u, hu⟩ := get_ex (l := s.data.toList) (i := 0) (by omega)
      refine ⟨u, by decide, (s_get s 0).trans hu, bc (fun h4 => no (.inr (.inr ⟨by omega, ?_⟩))) fun h4 => ⟨rfl, ?_⟩⟩
      · rw [hu]
        have h4 : ((u.toNat : Nat) : Int) = 48 := by simpa using h4
        have : u.toNat = 48 := by omega
        rw [show u = 48 from UInt8.toNat_inj.1 (by rw [this]; rfl)]
      · rintro (h5 | h5 | h5)
        · rw [ByteArray.toList_eq, ByteArray.toList_eq] at h; rw [h5] at h; simp at h
        · have := of_decide_eq_false h2; omega
        · rw [hu] at h5
          have h6 : u = 48 := Option.some.inj h5.2
          rw [h6] at h4; simp at h4
    · rintro (h5 | h5 | h5)
      · rw [ByteArray.toList_eq, ByteArray.toList_eq] at h; rw [h5] at h; simp at h
      · have := of_decide_eq_false h2; omega
      · have := of_decide_eq_false h3; omega
  rintro _ ⟨rfl, hb⟩
  have hne : s.data.toList ≠ [] := fun h => hb (.inl h)
  have h18 : s.size ≤ 18 := by rw [hz]; exact Nat.le_of_not_lt fun h => hb (.inr (.inl h))
  have eN : numF s.data.toList = Lib.decFrom 0 s.data.toList := by rw [numF, if_neg hb]
  rw [eN]
  refine ⟨fun x w' => ∃ i : Nat, x = (i : Int) ∧ i ≤ s.size ∧ (∀ j u, j < i → s.data.toList[j]? = some u → isD u) ∧ Chg none_ w w', fun x _ => s.size - x.toNat, ⟨0, rfl, Nat.zero_le _, fun j u h => absurd h (Nat.not_lt_zero _), Chg.refl _ _⟩, ?_⟩
  rintro _ w2 ⟨i, rfl, hi, hd, k2⟩
  refine bc (fun hlt => ?_) fun hge => ?_
  · have hi' : i < s.size := by simpa using hlt
    rw [wrapS (x := (i : Int) + 1) (by omega) (by omega)]
    obtain ⟨u, hu⟩ := get_ex (l := s.data.toList) (i := i) (by omega)
    have bad : ¬ isD u → (Value.tuple #[.int .i64 0, .bool false] = numV (Lib.decFrom 0 s.data.toList) ∧ Chg none_ w w2) := fun h => ⟨by rw [dec_bad _ 0 (List.mem_of_getElem? hu) h]; rfl, k2⟩
    refine ⟨u, by omega, (s_get s i).trans hu, bc (fun h => bad fun hD => ?_) fun h => ⟨u, by omega, (s_get s i).trans hu, bc (fun h' => bad fun hD => ?_) fun h' => ⟨⟨i + 1, by omega, hi', fun j v hj hv => ?_, k2⟩, meas hi'⟩⟩⟩
    · have := of_decide_eq_true h; have := hD.1; omega
    · have := of_decide_eq_true h'; have := hD.2; omega
    · rcases Nat.lt_or_ge j i with h1 | h1
      · exact hd j v h1 hv
      · have : j = i := by omega
        subst this
        rw [hu] at hv
        rw [← Option.some.inj hv]
        have h1 := of_decide_eq_false h; have h2 := of_decide_eq_false h'
        exact ⟨by omega, by omega⟩
  have hil : i = s.size := by have := of_decide_eq_false hge; omega
  subst hil
  have hall : ∀ b ∈ s.data.toList, isD b := fun b hb => by
    obtain ⟨j, hj⟩ := List.getElem?_of_mem hb
    exact hd j b (by have := get_lt hj; omega) hj
  obtain ⟨n, hn⟩ := dec_all s.data.toList 0 hall
  have hat : Lib.atoi s.data.toList = some (n : Int) := by
    cases hl : s.data.toList with
    | nil => exact absurd hl hne
    | cons b r =>
      have hb1 := hall b (by rw [hl]; simp)
      have e1 : (b == 45) = false := by
        simp only [beq_eq_false_iff_ne]; rintro rfl; have := hb1.1; simp at this
      have e2 : (b == 43) = false := by
        simp only [beq_eq_false_iff_ne]; rintro rfl; have := hb1.1; simp at this
      rw [hl] at hn
      rw [Lib.atoi, e1, e2]
      simp only [Bool.false_eq_true, if_false]
      unfold Lib.decNat
      rw [if_neg (by simp), hn]; rfl
  refine (Tryz.strconv_Atoi s n h18 hat w2).mono ?_
  rintro _ _ ⟨rfl, u, rfl⟩
  have k3 : Chg none_ w2 (Lib.bytesWorld w2 5 u) := ⟨rfl, rfl, rfl, by rw [Lib.bytesWorld_size]; omega, fun k hk _ => Lib.bytesWorld_at_old w2 5 u k hk⟩
  refine ⟨n, _, rfl, fun _ => True, true, _, nil58 _, fun _ _ => rfl, ?_, (k2.trans k3).drew⟩
  rw [hn]; rfl
/-- a word's number among some: the first place, if it is not the first of all -/
def wix : List ByteArray → ByteArray → Nat → Option Nat
  | [], _, _ => none
  | x :: xs, s, k => if x = s then (if 0 < k then some k else none) else wix xs s (k + 1)
theorem ba_eq {a b : ByteArray} (h : (a.toList == b.toList) = true) : a = b := by
  rw [ByteArray.toList_eq, ByteArray.toList_eq] at h
  have h2 : a.data.toList = b.data.toList := by simpa using h
  rw [← ba_back a, h2, ba_back]
theorem ba_ne {a b : ByteArray} (h : (a.toList == b.toList) = false) : a ≠ b := fun e => by subst e; simp at h
theorem word72 {w : World} {q : Option Addr} {l c : Nat} {ws : List ByteArray} (s : ByteArray) (H : RE En.str w q l ws) (hl : l ≤ 1000) :
    Calls Tryz.prog 72 #[.string s, .slice q l c] w (Ret fun v w' => v = numV (wix ws s 0) ∧ Chg none_ w w') := by
  have hlen := H.len
  refine f72.calls _ _ _ _ ?_
  unfold f72.wp
  refine ⟨fun x w' => ∃ i : Nat, x = (i : Int) ∧ i ≤ l ∧ wix (ws.drop i) s i = wix ws s 0 ∧ Chg none_ w w', fun x _ => l - x.toNat, ⟨0, rfl, Nat.zero_le _, rfl, Chg.refl _ _⟩, ?_⟩
  rintro _ w1 ⟨i, rfl, hi, he, k1⟩
  refine bc (fun hlt => ?_) fun hge => ?_
  rotate_left
  · have hil : i = l := by have := of_decide_eq_false hge; omega
    rw [List.drop_eq_nil_of_le (by omega), wix] at he
    rw [← he]
    exact ⟨rfl, k1⟩
  have hi' : i < l := by simpa using hlt
  rw [wrapS (x := (i : Int) + 1) (by omega) (by omega)]
  obtain ⟨a, y, ha, hy, hr⟩ := (H.chg k1).ex hi'
  have hd : ws.drop i = y :: ws.drop (i + 1) := by
    have hlt := get_lt hy
    rw [List.drop_eq_getElem_cons hlt]
    rw [List.getElem?_eq_getElem hlt] at hy
    cases hy; rfl
  rw [hd, wix] at he
  refine onPtr_at ha ⟨by omega, by omega, y, reads_one' hr, bc (fun hne => ?_) fun heq => ?_⟩
  · rw [if_neg (ba_ne (by simpa using hne))] at he
    exact ⟨⟨i + 1, by omega, hi', he, k1⟩, meas hi'⟩
  · rw [if_pos (ba_eq (by simpa using heq))] at he
    rw [← he]
    refine bc (fun hp => ?_) fun hp => ?_
    · rw [if_pos (by have := of_decide_eq_true hp; omega)]; exact ⟨rfl, k1⟩
    · rw [if_neg (by have := of_decide_eq_false hp; omega)]; exact ⟨rfl, k1⟩
end Go.Proofs.YtdlbmmodlkmofaaGreatDoor
