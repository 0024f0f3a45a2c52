import Derived.Test.YtjfafkgjcgbgfaaDoorHjZ
set_option maxRecDepth 20000
namespace Go.Proofs.YtjfafkgjcgbgfaaDoor
open Go Go.Vc Go.RowKit
theorem elemInt : ElemOk Tryd.prog 57 3 1 8 := ⟨rfl, _, rfl, rfl⟩
abbrev bt (l : List UInt8) : ByteArray := ⟨l.toArray⟩
theorem bt_list (l : List UInt8) : (bt l).toList = l := by rw [ByteArray.toList_eq]
theorem keyed41 (m : Mv) {w : World} : Calls Tryd.prog 41 #[mvV m] w (Ret fun v w' => ∃ b : Bool, v = .bool b ∧ (b = true ↔ Kd m) ∧ Chg none_ w w') := by
  refine f41.calls _ _ _ _ _ _ _ _ ?_
  unfold f41.wp
  refine newBox fun w1 B k1 _ => ⟨_, (B.cell 0).trans rfl, bc (fun h => ⟨_, rfl, iff_of_true rfl (.inl (by simpa using h)), k1⟩) fun h1 => ⟨_, (B.cell 0).trans rfl, bc (fun h => ⟨_, rfl, iff_of_true rfl (.inr (.inl (by simpa using h))), k1⟩) fun h2 => ⟨_, (B.cell 0).trans rfl, _, rfl, ?_, k1⟩⟩⟩
  simp at h1 h2
  unfold Kd
  simp [h1, h2]
theorem bytesLess_eq' : ∀ x y : List UInt8, Op.bytesLess x y = decide (x < y)
  | [], [] => by simp [Op.bytesLess]
  | [], b :: y => by simp [Op.bytesLess]
  | a :: x, [] => by simp [Op.bytesLess]
  | a :: x, b :: y => by
    have ih := bytesLess_eq' x y
    simp only [Op.bytesLess, ih, List.cons_lt_cons_iff]
    by_cases h1 : a < b <;> by_cases h2 : a = b <;> simp [h1, h2]
theorem keeps_of {S T : Nat → Prop} {a b c : World} {n : Nat} (h : Chg S a b) (k : Chg T b c) (hn : n < a.heap.size) (hS : ¬ S n) (hT : ¬ T n) : Keeps (fun p => p.block = n) a c := fun p hp => by
  have h1 := h.cell (p := p) (by rw [hp]; exact hn) (by rw [hp]; exact hS)
  have h2 := k.cell (p := p) (by rw [hp]; exact Nat.lt_of_lt_of_le hn h.size) (by rw [hp]; exact hT)
  exact h2.trans h1
section
variable {w : World} {q : Option Addr} {l c : Nat} {ms : List Mv}
theorem of25 (H : RE En.mv w q l ms) (hl : l * 80 ≤ 140737488351232) (s : ByteArray) :
    Calls Tryd.prog 25 #[.slice q l c, .string s] w (Ret fun v w' => ∃ q' c', v = .slice q' (ofF ms s.data.toList l).length c' ∧ SE En.int w' w.heap.size 3 q' (ofF ms s.data.toList l).length c' ((ofF ms s.data.toList l).map fun n : Nat => (n : Int)) ∧ Chg none_ w w') := by
  have hlen := H.len
  refine f25.calls _ _ _ _ ?_
  unfold f25.wp
  refine ⟨fun q1 l1 c1 x w1 => ∃ i : Nat, x = (i : Int) ∧ i ≤ l ∧ SE En.int w1 w.heap.size 3 q1 l1 c1 ((ofF ms s.data.toList i).map fun n : Nat => (n : Int)) ∧ Chg none_ w w1, fun _ _ _ x _ => l - x.toNat, ⟨0, rfl, by omega, SE.nil _ _ _ _, Chg.refl _ _⟩, ?_⟩
  rintro q1 l1 c1 _ w1 ⟨i, rfl, hi, S1, k1⟩
  have hl1 := S1.len
  have hfl := ofF_len ms s.data.toList i
  rw [List.length_map] at hl1
  refine bc (fun g => ?_) fun g => ?_
  · have g : i < l := by simp at g; omega
    obtain ⟨p, m, hp, hm, hr⟩ := (H.chg k1).ex g
    subst hp
    have hnx := ofF_next (k := s.data.toList) hm
    rw [wrapN (n := i) (by omega)]
    refine onPtr_mk ⟨by omega, by omega, m.kind, m.key, m.val, m.err, m.hit, m.life, m.frm, m.to, hr, boxed rfl rfl fun w3 B3 k3 s3 => ⟨_, _, _, _, _, _, _, _, B3.reads0, Calls.use (keyed41 m) ?_⟩⟩
    rintro _ w4 ⟨b, rfl, hb, k4⟩
    have B4 := k4.blk B3 (fun x => x)
    have k34 := k3.trans k4
    have skip : ¬ (Kd m ∧ m.key.data.toList = s.data.toList) → (∃ j : Nat, ((i + 1 : Nat) : Int) = (j : Int) ∧ j ≤ l ∧ SE En.int w4 w.heap.size 3 q1 l1 c1 ((ofF ms s.data.toList j).map fun n : Nat => (n : Int)) ∧ Chg none_ w w4) ∧ l - ((i + 1 : Nat) : Int).toNat < l - (i : Int).toNat := fun h => ⟨⟨i + 1, rfl, by omega, by rw [hnx, if_neg h]; exact S1.chgN k34, k1.trans k34⟩, by simp only [Int.toNat_natCast]; omega⟩
    refine ⟨b, rfl, bc (fun h1 => ⟨m.key, (B4.cell0 1).trans rfl, bc (fun h2 w5 e5 => ?_) fun h2 => skip fun hh => ?_⟩) fun h1 => skip fun hh => ?_⟩
    · have h3 : Kd m ∧ m.key.data.toList = s.data.toList := ⟨hb.1 h1, by rw [ByteArray.toList_eq, ByteArray.toList_eq] at h2; simpa using h2⟩
      have k5 := (k34.new' e5)
      obtain ⟨q2, c2, w6, hrun, S6, k6, _⟩ := (S1.chgN k5).append1 (t := 57) (ty := 57) (x := (i : Int)) elemInt (new_blk e5) (by simp only [maxLen]; omega) (by omega) (k1.trans k5).size
      refine ⟨q2, _, c2, w6, hrun, ⟨i + 1, rfl, by omega, ?_, (k1.trans k5).up k6 fun g hg => ((S1.chgN k5).lt hg.symm).2⟩, by simp only [Int.toNat_natCast]; omega⟩
      rw [hnx, if_pos h3, List.map_append]; exact S6
    · rw [ByteArray.toList_eq, ByteArray.toList_eq] at h2
      rw [hh.2] at h2; simp at h2
    · rw [hb.2 hh.1] at h1; cases h1
  · have hie : i = l := by simp at g; omega
    subst hie
    subst hl1
    exact ⟨q1, c1, rfl, S1, k1⟩
theorem keys24 (H : RE En.mv w q l ms) (hl : l * 80 ≤ 140737488351232) :
    Calls Tryd.prog 24 #[.slice q l c] w (Ret fun v w' => ∃ q' c', v = .slice q' (refK ms).length c' ∧ SE En.str w' w.heap.size 9 q' (refK ms).length c' ((refK ms).map bt) ∧ Chg none_ w w') := by
  have hlen := H.len
  refine f24.calls _ _ _ ?_
  unfold f24.wp
  refine ⟨fun q1 l1 c1 x w1 => ∃ i : Nat, x = (i : Int) ∧ i ≤ l ∧ SE En.str w1 w.heap.size 9 q1 l1 c1 ((refK (ms.take i)).map bt) ∧ Chg none_ w w1, fun _ _ _ x _ => l - x.toNat, ⟨0, rfl, by omega, SE.nil _ _ _ _, Chg.refl _ _⟩, ?_⟩
  rintro q1 l1 c1 _ w1 ⟨i, rfl, hi, S1, k1⟩
  have hl1 := S1.len
  rw [List.length_map] at hl1
  have hcl := S1.le
  have hfl := refK_len ms i (by omega)
  refine bc (fun g => ?_) fun g => ?_
  · have g : i < l := by simp at g; omega
    obtain ⟨p, m, hp, hm, hr⟩ := (H.chg k1).ex g
    subst hp
    have hnx := refK_next hm
    rw [wrapN (n := i) (by omega)]
    refine onPtr_mk ⟨by omega, by omega, m.kind, m.key, m.val, m.err, m.hit, m.life, m.frm, m.to, hr, boxed rfl rfl fun w3 B3 k3 s3 => ⟨_, _, _, _, _, _, _, _, B3.reads0, Calls.use (keyed41 m) ?_⟩⟩
    rintro _ w4 ⟨b, rfl, hb, k4⟩
    have B4 := k4.blk B3 (fun x => x)
    have k14 := k1.trans (k3.trans k4)
    have S4 := S1.chgN (k3.trans k4)
    generalize hK : refK (ms.take i) = K at *
    have rdK : ∀ {w' : World} {n : Nat}, Chg none_ w4 w' → n < l1 → ∃ a y, q1 = some a ∧ K[n]? = some y ∧ w'.cell? (a.add (n * 1)) = some (.string (bt y)) := fun k hn => by
      obtain ⟨a, y, ha, hy, hr⟩ := (S4.chgN k).re.ex hn
      simp only [List.getElem?_map, Option.map_eq_some_iff] at hy
      obtain ⟨z, hz, rfl⟩ := hy
      exact ⟨a, z, ha, hz, reads_one' hr⟩
    refine ⟨b, rfl, bc (fun h1 => ⟨⟨i + 1, rfl, by omega, ?_, k14⟩, by simp only [Int.toNat_natCast]; omega⟩) fun h1 => ?_⟩
    · rw [hnx, if_neg (fun hh => by rw [hb.2 hh] at h1; cases h1)]; exact S4
    have hKd : Kd m := hb.1 (by simpa using h1)
    rw [if_pos hKd] at hnx
    refine ⟨fun x2 w5 => ∃ n : Nat, x2 = (n : Int) ∧ n ≤ l1 ∧ (∀ j y, j < n → K[j]? = some y → y < m.key.data.toList) ∧ (∀ y, K[n]? = some y → ¬ y < m.key.data.toList) ∧ Chg none_ w4 w5, ?_, fun x3 w6 => ∃ n : Nat, x3 = (n : Int) ∧ n ≤ l1 ∧ (∀ j y, j < n → K[j]? = some y → y < m.key.data.toList) ∧ Chg none_ w4 w6, fun x3 _ => l1 - x3.toNat, ⟨0, rfl, by omega, fun j y hj => by omega, Chg.refl _ _⟩, ?_⟩
    rotate_left
    · rintro _ w6 ⟨n, rfl, hn, hlt, k6⟩
      refine bc (fun g2 => ?_) fun g2 => ?_
      · have g2 : n < l1 := by simp at g2; omega
        obtain ⟨a, y, ha, hy, hc⟩ := rdK k6.drew g2
        subst ha
        rw [wrapN (n := n) (by omega)]
        refine onPtr_mk ⟨by omega, by omega, bt y, hc, m.key, ((k6.drew.blk B4 (fun x => x)).cell0 1).trans rfl, bc (fun g3 => ?_) fun g3 => ?_⟩
        · rw [bytesLess_eq', bt_list, ByteArray.toList_eq] at g3
          refine ⟨⟨n + 1, rfl, by omega, fun j z hj hz => ?_, k6.drew⟩, by simp only [Int.toNat_natCast]; omega⟩
          by_cases e : j = n
          · subst e; rw [hy] at hz; cases hz; exact of_decide_eq_true g3
          · exact hlt j z (by omega) hz
        · rw [bytesLess_eq', bt_list, ByteArray.toList_eq] at g3
          exact ⟨n, rfl, by omega, hlt, (fun z hz => by rw [hy] at hz; cases hz; exact of_decide_eq_false g3), k6.drew⟩
      · have hne : n = l1 := by simp at g2; omega
        exact ⟨n, rfl, by omega, hlt, (fun z hz => by rw [List.getElem?_eq_none (by omega)] at hz; cases hz), k6.drew⟩
    rintro _ w5 ⟨n, rfl, hn, hlt, hge, k5⟩
    have hat := insK_at K n (by omega) hlt hge
    rw [hat] at hnx
    refine ⟨fun w7 => Chg none_ w4 w7 ∧ K[n]? ≠ some m.key.data.toList, ?_, bc (fun g2 => ?_) fun g2 => ⟨k5.drew, fun e => ?_⟩⟩
    · rintro w7 ⟨k7, hne⟩ w8 e8
      rw [if_neg hne] at hnx
      have k8 := k7.new' e8
      have S8 := S4.chgN k8
      have E8 : SE En.str w8 w7.heap.size 9 (some ⟨w7.heap.size, 0, none⟩) 0 0 [] := SE.lit (new_blk e8) (Nat.le_refl _) (fun n v hv => by simp [En.flat] at hv) rfl (Nat.le_refl _) (Nat.zero_le _) (by simp)
      obtain ⟨q2, c2, w9, hr9, S9, k9, hq9, _⟩ := E8.append (t := 69) (ty := 69) (m := n) (c2 := c1) elemStr (S8.re.take hn) (by simp only [maxLen]; omega) (by omega) ((Chg.refl none_ w7).new' e8).size
      have k79 : Chg none_ w7 w9 := ((Chg.refl none_ w7).new' e8).up k9 fun g hg => by simp [qB] at hg; omega
      have k49 := k7.trans k79
      have z4 := B4.lt
      have z47 := k7.size
      have hq2 : ∀ g, qB q2 = some g → w7.heap.size ≤ g := fun g hg => (S9.lt hg).2
      refine ⟨by omega, by omega, q2, _, c2, w9, hr9, fun p => p.block = w1.heap.size, m.key, rfl, ((k49.drew.blk B4 (fun x => x)).cell0 1).trans rfl, by omega, by omega, fun w10 e10 => ⟨?_, ?_⟩⟩
      · have := (Chg.refl none_ w9.drew).new' e10
        exact keeps_of this (Chg.refl none_ w10) (Nat.lt_of_lt_of_le z4 k49.drew.size) (fun x => x) fun x => x
      have k910 : Chg none_ w9 w10 := (Chg.refl none_ w9).drew.new' e10
      obtain ⟨q3, c3, w11, hr11, S11, k11, hq11, _⟩ := (S9.chgN k910).append1 (t := 69) (ty := 69) (x := m.key) elemStr (new_blk e10) (by simp only [maxLen]; omega) (by omega) (k79.trans k910).size
      have k711 : Chg none_ w7 w11 := (k79.trans k910).up k11 fun g hg => hq2 g hg.symm
      refine ⟨q3, _, c3, w11, hr11, ?_, ?_⟩
      · exact keeps_of ((Chg.refl none_ w9.drew).new' e10) k11 (Nat.lt_of_lt_of_le z4 k49.drew.size) (fun x => x) fun hg => by have := hq2 _ hg.symm; omega
      have k411 := k7.trans k711
      obtain ⟨q4, c4, w12, hr12, S12, k12, hq12, _⟩ := S11.append (t := 69) (ty := 69) (m := l1 - n) (c2 := c1 - n) elemStr ((S4.chgN k411).re.cut hn hcl) (by simp only [maxLen]; omega) (by omega) k711.size
      have k712 : Chg none_ w7 w12 := k711.up k12 fun g hg => (S11.lt hg.symm).2
      have k12' := k14.trans (k7.trans k712)
      refine ⟨q4, _, c4, w12, hr12, ⟨i + 1, rfl, by omega, ?_, k12'⟩, by simp only [Int.toNat_natCast]; omega⟩
      have hw7 : w.heap.size ≤ w7.heap.size := (k14.trans k7).size
      have hf := S12.lower hw7
      rw [hnx]
      have e : ([] ++ List.take n (K.map bt) ++ [m.key]) ++ List.drop n (K.map bt) = (K.take n ++ m.key.data.toList :: K.drop n).map bt := by
        rw [List.map_append, List.map_cons, List.map_take, List.map_drop]
        have : bt m.key.data.toList = m.key := ba_back _
        rw [this]; simp
      rw [e] at hf
      exact hf
    · have g2 : n < l1 := by simp at g2; omega
      obtain ⟨a, y, ha, hy, hc⟩ := rdK k5.drew g2
      subst ha
      refine onPtr_mk ⟨by omega, by omega, bt y, hc, m.key, ((k5.drew.blk B4 (fun x => x)).cell0 1).trans rfl, bc (fun g3 => ?_) fun g3 => ⟨k5.drew, fun e => ?_⟩⟩
      · rw [bt_list, ByteArray.toList_eq] at g3
        have g3 : y = m.key.data.toList := by simpa using g3
        rw [if_pos (by rw [hy, g3])] at hnx
        exact ⟨⟨i + 1, rfl, by omega, by rw [hnx]; exact S4.chgN k5.drew, k14.trans k5.drew⟩, by simp only [Int.toNat_natCast]; omega⟩
      · rw [hy] at e; cases e
        simp [ByteArray.toList_eq] at g3
    · have := get_lt e
      simp at g2; omega
  · have hie : i = l := by simp at g; omega
    subst hie
    rw [List.take_of_length_le (by omega)] at S1 hl1
    subst hl1
    exact ⟨q1, c1, rfl, S1, k1⟩
theorem clone42 (H : RE En.mv w q l ms) (hl : l * 80 ≤ 140737488351232) (hq : q = none → l = 0) :
    Calls Tryd.prog 42 #[.slice q l c] w (Ret fun v w' => ∃ q' c', v = .slice q' l c' ∧ SE En.mv w' w.heap.size 33 q' l c' ms ∧ Chg none_ w w') := by
  refine f42.calls _ _ _ ?_
  unfold f42.wp
  refine ⟨_, w, run_eqnil Tryd.underlying23 q l c, ?_⟩
  refine bc (fun hn => ?_) (fun hn => ?_)
  · have hq' : q = none := by simpa using hn
    have h0 := hq hq'
    subst h0 hq'
    have hx : ms = [] := List.eq_nil_of_length_eq_zero H.len
    subst hx
    exact ⟨none, 0, rfl, SE.nil _ _ _ _, Chg.refl _ _⟩
  intro w1 e1
  have B1 := new_blk e1
  have k1 := (Chg.refl none_ w).new' e1
  have s1 : SE En.mv w1 w.heap.size 33 (some ⟨w.heap.size, 0, none⟩) 0 0 [] := SE.lit B1 (Nat.le_refl _) (fun n v hv => by simp [En.flat] at hv) rfl (Nat.le_refl _) (Nat.zero_le _) (by simp)
  obtain ⟨q', c', w2, hr, s2, k2, _⟩ := s1.append (t := 23) (ty := 23) (m := l) (c2 := c) elemMove (H.chg k1) (by simp only [maxLen]; omega) (by omega) k1.size
  rw [Nat.zero_add] at hr s2
  exact ⟨q', l, c', w2, hr, q', c', rfl, by simpa using s2, Chg.up k1 k2 (fun k hk => by simp [qB] at hk; omega)⟩
end
end Go.Proofs.YtjfafkgjcgbgfaaDoor
