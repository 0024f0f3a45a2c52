import Derived.Test.YtjfafkgjcgbgfaaDoorHjE
set_option maxRecDepth 20000
namespace Go.Proofs.YtjfafkgjcgbgfaaDoor
open Go Go.Vc Go.RowKit
/-! # a history as it is seen at a step -/
def openM (m : Mv) : Mv := ⟨m.kind, m.key, if m.kind = 2 then m.val else e0, 0, false, m.life, m.frm, -1⟩
def cutM (step : Int) (m : Mv) : Mv := if m.to ≥ step then openM m else m
def cutL (step : Int) (ms : List Mv) : List Mv := (ms.filter fun m => decide (m.frm < step)).map (cutM step)
theorem cutL_next {step : Int} {ms : List Mv} {n : Nat} {m : Mv} (h : ms[n]? = some m) : cutL step (ms.take (n + 1)) = if m.frm < step then cutL step (ms.take n) ++ [cutM step m] else cutL step (ms.take n) := by
  unfold cutL
  rw [List.take_add_one, h, List.filter_append, List.map_append]
  by_cases e : m.frm < step <;> simp [e]
theorem cutL_len (step : Int) (ms : List Mv) (n : Nat) : (cutL step (ms.take n)).length ≤ n := by
  unfold cutL
  rw [List.length_map]
  refine Nat.le_trans (List.length_filter_le _ _) ?_
  rw [List.length_take]; omega
section
variable {w w1 : World} {b : Nat} {m : Mv}
theorem put1 {x : ByteArray} (B : Blk w b 33 (mvC m)) (e : w1 = setCells ((⟨b, 0, none⟩ : Addr).add 1) 0 [.string x] w) : Blk w1 b 33 (mvC { m with key := x }) ∧ Chg (fun k => k = b) w w1 := B.put e
theorem can1 (B : Blk w b 33 (mvC m)) : canStore w ((⟨b, 0, none⟩ : Addr).add 1) 1 := B.canStore0 (Nat.le_of_ble_eq_true rfl)
theorem put2 {x : ByteArray} (B : Blk w b 33 (mvC m)) (e : w1 = setCells ((⟨b, 0, none⟩ : Addr).add 2) 0 [.string x] w) : Blk w1 b 33 (mvC { m with val := x }) ∧ Chg (fun k => k = b) w w1 := B.put e
theorem can2 (B : Blk w b 33 (mvC m)) : canStore w ((⟨b, 0, none⟩ : Addr).add 2) 1 := B.canStore0 (Nat.le_of_ble_eq_true rfl)
theorem put3 {x : Int} (B : Blk w b 33 (mvC m)) (e : w1 = setCells ((⟨b, 0, none⟩ : Addr).add 3) 0 [.int .i64 x] w) : Blk w1 b 33 (mvC { m with err := x }) ∧ Chg (fun k => k = b) w w1 := B.put e
theorem can3 (B : Blk w b 33 (mvC m)) : canStore w ((⟨b, 0, none⟩ : Addr).add 3) 1 := B.canStore0 (Nat.le_of_ble_eq_true rfl)
theorem put4 {x : Bool} (B : Blk w b 33 (mvC m)) (e : w1 = setCells ((⟨b, 0, none⟩ : Addr).add 4) 0 [.bool x] w) : Blk w1 b 33 (mvC { m with hit := x }) ∧ Chg (fun k => k = b) w w1 := B.put e
theorem can4 (B : Blk w b 33 (mvC m)) : canStore w ((⟨b, 0, none⟩ : Addr).add 4) 1 := B.canStore0 (Nat.le_of_ble_eq_true rfl)
theorem put7 {x : Int} (B : Blk w b 33 (mvC m)) (e : w1 = setCells ((⟨b, 0, none⟩ : Addr).add 7) 0 [.int .i64 x] w) : Blk w1 b 33 (mvC { m with to := x }) ∧ Chg (fun k => k = b) w w1 := B.put e
theorem can7 (B : Blk w b 33 (mvC m)) : canStore w ((⟨b, 0, none⟩ : Addr).add 7) 1 := B.canStore0 (Nat.le_of_ble_eq_true rfl)
theorem put0 {x : Int} (B : Blk w b 33 (mvC m)) (e : w1 = setCells (⟨b, 0, none⟩ : Addr) 0 [.int .i64 x] w) : Blk w1 b 33 (mvC { m with kind := x }) ∧ Chg (fun k => k = b) w w1 := B.put0 e
theorem can0 (B : Blk w b 33 (mvC m)) : canStore w (⟨b, 0, none⟩ : Addr) 1 := B.canStore (Nat.le_of_ble_eq_true rfl)
end
theorem open29 (m : Mv) {w : World} : Calls Tryd.prog 29 #[mvV m] w (Ret fun v w' => v = mvV (openM m) ∧ Chg none_ w w') := by
  refine f29.calls _ _ _ _ _ _ _ _ ?_
  unfold f29.wp
  refine newBox fun w1 B1 k1 s1 => newBox fun w2 B2 k2 s2 => ?_
  have B12 : Blk w2 w.heap.size 33 (mvC m) := k2.blk B1 (fun x => x)
  have ne : w1.heap.size ≠ w.heap.size := by omega
  have ne' : ¬ w1.heap.size = w.heap.size := ne
  have up : ∀ {a b : World}, Chg none_ w a → Chg (fun k => k = w.heap.size) a b → Chg none_ w b := fun h h' => h.up h' fun k hk => by omega
  have up' : ∀ {a b : World}, Chg none_ w a → Chg (fun k => k = w1.heap.size) a b → Chg none_ w b := fun h h' => h.up h' fun k hk => by omega
  refine ⟨can7 B12, fun w3 e3 => ?_⟩
  obtain ⟨B3, k3⟩ := put7 B12 e3
  refine ⟨can3 B3, fun w4 e4 => ?_⟩
  obtain ⟨B4, k4⟩ := put3 B3 e4
  refine ⟨can4 B4, fun w5 e5 => ?_⟩
  obtain ⟨B5, k5⟩ := put4 B4 e5
  have k05 := up (up (up (k1.trans k2) k3) k4) k5
  have B25 := k5.blk (k4.blk (k3.blk B2 ne') ne') ne'
  refine ⟨_, (B5.cell 0).trans rfl, bc (fun h => ⟨can2 B5, fun w6 e6 => ?_⟩) fun h => ?_⟩
  · obtain ⟨B6, k6⟩ := put2 B5 e6
    have B26 := k6.blk B25 ne'
    refine ⟨_, _, _, _, _, _, _, _, B6.reads0, B26.store rfl rfl fun w7 B7 k7 _ => ⟨_, _, _, _, _, _, _, _, B7.reads0, ?_, up' (up k05 k6) k7⟩⟩
    simp at h
    simp [openM, h]
  · refine ⟨_, _, _, _, _, _, _, _, B5.reads0, B25.store rfl rfl fun w7 B7 k7 _ => ⟨_, _, _, _, _, _, _, _, B7.reads0, ?_, up' k05 k7⟩⟩
    simp at h
    simp [openM, h]
theorem cut17 {w : World} {q : Option Addr} {l c : Nat} {ms : List Mv} (step : Int) (H : RE En.mv w q l ms) (hl : l * 80 ≤ 140737488351232) :
    Calls Tryd.prog 17 #[.slice q l c, .int .i64 step] w (Ret fun v w' => ∃ q3 l3 c3, v = .slice q3 l3 c3 ∧ SE En.mv w' w.heap.size 33 q3 l3 c3 (cutL step ms) ∧ Chg none_ w w') := by
  have hlen := H.len
  refine f17.calls _ _ _ _ ?_
  unfold f17.wp
  refine ⟨fun q1 l1 c1 x w1 => ∃ n : Nat, x = (n : Int) ∧ n ≤ l ∧ Chg none_ w w1 ∧ SE En.mv w1 w.heap.size 33 q1 l1 c1 (cutL step (ms.take n)), fun _ _ _ x _ => l - x.toNat, ⟨0, rfl, by omega, Chg.refl _ _, SE.nil _ _ _ _⟩, ?_⟩
  rintro q1 l1 c1 _ w1 ⟨n, rfl, hn, k1, S1⟩
  refine bc (fun g1 => ?_) fun g1 => ?_
  · have g1 : n < l := by simp at g1; omega
    obtain ⟨a, m, rfl, hm, hr⟩ := H.ex g1
    have hw := wrapN (n := n) (by omega)
    have hnx := cutL_next (step := step) hm
    have hln := cutL_len step ms n
    have hl1 := S1.len
    rw [hw]
    refine onPtr_mk ⟨by omega, by omega, m.kind, m.key, m.val, m.err, m.hit, m.life, m.frm, m.to, k1.readsN hr, boxed rfl rfl fun w3 B k3 hs3 => ?_⟩
    have k13 : Chg none_ w w3 := k1.trans k3
    have hlt : ∀ g, qB q1 = some g → ¬ g = w1.heap.size := fun g hg => by have := (S1.lt hg).1; omega
    have meas : ∀ {X : Prop}, X → X ∧ l - ((n + 1 : Nat) : Int).toNat < l - (n : Int).toNat := fun h => ⟨h, by simp only [Int.toNat_natCast]; omega⟩
    -- the move, as it is, goes behind the others
    have app : ∀ (m' : Mv) (w4 : World), Blk w4 w1.heap.size 33 (mvC m') → Chg none_ w w4 → SE En.mv w4 w.heap.size 33 q1 l1 c1 (cutL step (ms.take n)) → m.frm < step → cutM step m = m' →
        ∃ n1 s1 s2 n2 b1 n3 n4 n5, reads w4 ⟨w1.heap.size, 0, none⟩ [.int .i64 n1, .string s1, .string s2, .int .i64 n2, .bool b1, .int .i64 n3, .int .i64 n4, .int .i64 n5] ∧ ∀ w5, w5 = w4.alloc (.cells #[.int .i64 n1, .string s1, .string s2, .int .i64 n2, .bool b1, .int .i64 n3, .int .i64 n4, .int .i64 n5] 33) →
          ∃ (q2 : Option Addr) (l2 c2 : Nat), ∃ w6 : World, (Builtin.append_ #[23, 23] 23 #[.slice q1 l1 c1, .slice (some ⟨w4.heap.size, 0, none⟩) 1 1]).run Tryd.prog w5 = .ok (.slice q2 l2 c2) w6 ∧
            (∃ j : Nat, ((n + 1 : Nat) : Int) = (j : Int) ∧ j ≤ l ∧ Chg none_ w w6 ∧ SE En.mv w6 w.heap.size 33 q2 l2 c2 (cutL step (ms.take j))) ∧ l - ((n + 1 : Nat) : Int).toNat < l - (n : Int).toNat := fun m' w4 B4 k4 S4 hf hm' =>
      ⟨m'.kind, m'.key, m'.val, m'.err, m'.hit, m'.life, m'.frm, m'.to, B4.reads0, newBox fun w5 B5 k5 _ => by
        have k45 := k4.trans k5
        obtain ⟨q2, c2, w6, hrun, S6, k6, _⟩ := (S4.chgN k5).append1 (t := 23) (ty := 23) (x := m') elemMove B5 (by simp only [maxLen]; omega) (by omega) k45.size
        refine ⟨_, _, _, w6, hrun, meas ⟨n + 1, rfl, by omega, k45.up k6 fun k hk => (S1.lt hk.symm).2, ?_⟩⟩
        rw [hnx, if_pos hf, hm']; exact S6⟩
    refine ⟨_, (B.cell0 6).trans rfl, bc (fun g2 => meas ⟨n + 1, rfl, by omega, k13, ?_⟩) fun g2 => ⟨_, (B.cell0 7).trans rfl, bc (fun g3 => ?_) fun g3 => ?_⟩⟩
    · rw [hnx, if_neg (by simp at g2; omega)]; exact S1.chgN k3
    · have up : ∀ {a b : World}, Chg none_ w a → Chg (fun k => k = w1.heap.size) a b → Chg none_ w b := fun h h' => h.up h' fun k hk => by have := k1.size; omega
      refine ⟨can7 B, fun w4 e4 => ?_⟩
      obtain ⟨B4, k4⟩ := put7 B e4
      refine ⟨can3 B4, fun w5 e5 => ?_⟩
      obtain ⟨B5, k5⟩ := put3 B4 e5
      refine ⟨can4 B5, fun w6 e6 => ?_⟩
      obtain ⟨B6, k6⟩ := put4 B5 e6
      have k06 := up (up (up k13 k4) k5) k6
      have S6 := (((S1.chgN k3).chg k4 hlt).chg k5 hlt).chg k6 hlt
      refine ⟨_, (B6.cell 0).trans rfl, bc (fun g4 => ⟨can2 B6, fun w7 e7 => ?_⟩) fun g4 => app _ w6 B6 k06 S6 (by simpa using g2) ?_⟩
      · obtain ⟨B7, k7⟩ := put2 B6 e7
        refine app _ w7 B7 (up k06 k7) (S6.chg k7 hlt) (by simpa using g2) ?_
        simp at g4
        unfold cutM openM; rw [if_pos (by simp at g3; omega), if_neg (by simpa using g4)]
      · simp at g4
        unfold cutM openM; rw [if_pos (by simp at g3; omega), if_pos (by simpa using g4)]
    · exact app m w3 B k13 (S1.chgN k3) (by simpa using g2) (by unfold cutM; rw [if_neg (by simp at g3; omega)])
  · have : n = l := by simp at g1; omega
    subst this
    refine ⟨_, _, _, rfl, ?_, k1⟩
    rwa [← hlen, List.take_length] at S1
theorem cut18 {w : World} {q : Option Addr} {l c : Nat} {ms : List Mv} (step : Int) (H : RE En.mv w q l ms) (hl : l * 80 ≤ 140737488351232) :
    Calls Tryd.prog 18 #[.slice q l c, .int .i64 step] w (Ret fun v w' => ∃ q3 l3 c3, v = .slice q3 l3 c3 ∧ SE En.mv w' w.heap.size 33 q3 l3 c3 (cutL step ms) ∧ Chg none_ w w') := by
  have hlen := H.len
  refine f18.calls _ _ _ _ ?_
  unfold f18.wp
  refine ⟨fun q1 l1 c1 x w1 => ∃ n : Nat, x = (n : Int) ∧ n ≤ l ∧ Chg none_ w w1 ∧ SE En.mv w1 w.heap.size 33 q1 l1 c1 (cutL step (ms.take n)), fun _ _ _ x _ => l - x.toNat, ⟨0, rfl, by omega, Chg.refl _ _, SE.nil _ _ _ _⟩, ?_⟩
  rintro q1 l1 c1 _ w1 ⟨n, rfl, hn, k1, S1⟩
  refine bc (fun g1 => ?_) fun g1 => ?_
  · have g1 : n < l := by simp at g1; omega
    obtain ⟨a, m, rfl, hm, hr⟩ := H.ex g1
    have hw := wrapN (n := n) (by omega)
    have hnx := cutL_next (step := step) hm
    have hln := cutL_len step ms n
    have hl1 := S1.len
    rw [hw]
    refine onPtr_mk ⟨by omega, by omega, m.kind, m.key, m.val, m.err, m.hit, m.life, m.frm, m.to, k1.readsN hr, boxed rfl rfl fun w3 B k3 hs3 => ?_⟩
    have k13 : Chg none_ w w3 := k1.trans k3
    have hlt : ∀ g, qB q1 = some g → ¬ g = w1.heap.size := fun g hg => by have := (S1.lt hg).1; omega
    have meas : ∀ {X : Prop}, X → X ∧ l - ((n + 1 : Nat) : Int).toNat < l - (n : Int).toNat := fun h => ⟨h, by simp only [Int.toNat_natCast]; omega⟩
    -- the move, as it is, goes behind the others
    have app : ∀ (m' : Mv) (w4 : World), Blk w4 w1.heap.size 33 (mvC m') → Chg none_ w w4 → SE En.mv w4 w.heap.size 33 q1 l1 c1 (cutL step (ms.take n)) → m.frm < step → cutM step m = m' →
        ∃ n1 s1 s2 n2 b1 n3 n4 n5, reads w4 ⟨w1.heap.size, 0, none⟩ [.int .i64 n1, .string s1, .string s2, .int .i64 n2, .bool b1, .int .i64 n3, .int .i64 n4, .int .i64 n5] ∧ ∀ w5, w5 = w4.alloc (.cells #[.int .i64 n1, .string s1, .string s2, .int .i64 n2, .bool b1, .int .i64 n3, .int .i64 n4, .int .i64 n5] 33) →
          ∃ (q2 : Option Addr) (l2 c2 : Nat), ∃ w6 : World, (Builtin.append_ #[23, 23] 23 #[.slice q1 l1 c1, .slice (some ⟨w4.heap.size, 0, none⟩) 1 1]).run Tryd.prog w5 = .ok (.slice q2 l2 c2) w6 ∧
            (∃ j : Nat, ((n + 1 : Nat) : Int) = (j : Int) ∧ j ≤ l ∧ Chg none_ w w6 ∧ SE En.mv w6 w.heap.size 33 q2 l2 c2 (cutL step (ms.take j))) ∧ l - ((n + 1 : Nat) : Int).toNat < l - (n : Int).toNat := fun m' w4 B4 k4 S4 hf hm' =>
      ⟨m'.kind, m'.key, m'.val, m'.err, m'.hit, m'.life, m'.frm, m'.to, B4.reads0, newBox fun w5 B5 k5 _ => by
        have k45 := k4.trans k5
        obtain ⟨q2, c2, w6, hrun, S6, k6, _⟩ := (S4.chgN k5).append1 (t := 23) (ty := 23) (x := m') elemMove B5 (by simp only [maxLen]; omega) (by omega) k45.size
        refine ⟨_, _, _, w6, hrun, meas ⟨n + 1, rfl, by omega, k45.up k6 fun k hk => (S1.lt hk.symm).2, ?_⟩⟩
        rw [hnx, if_pos hf, hm']; exact S6⟩
    refine ⟨_, (B.cell0 6).trans rfl, bc (fun g2 => meas ⟨n + 1, rfl, by omega, k13, ?_⟩) fun g2 => ⟨_, (B.cell0 7).trans rfl, bc (fun g3 => ?_) fun g3 => ?_⟩⟩
    · rw [hnx, if_neg (by simp at g2; omega)]; exact S1.chgN k3
    · have up : ∀ {a b : World}, Chg none_ w a → Chg (fun k => k = w1.heap.size) a b → Chg none_ w b := fun h h' => h.up h' fun k hk => by have := k1.size; omega
      refine ⟨m.kind, m.key, m.val, m.err, m.hit, m.life, m.frm, m.to, B.reads0, Calls.use (open29 m) ?_⟩
      rintro _ w4 ⟨rfl, k4⟩
      have B4 := k4.blk B (fun x => x)
      refine ⟨_, _, _, _, _, _, _, _, rfl, B4.store rfl rfl fun w5 B5 k5 _ => ?_⟩
      exact app (openM m) w5 B5 (up (k13.trans k4) k5) (((S1.chgN k3).chgN k4).chg k5 hlt) (by simpa using g2) (by unfold cutM; rw [if_pos (by simp at g3; omega)])
    · exact app m w3 B k13 (S1.chgN k3) (by simpa using g2) (by unfold cutM; rw [if_neg (by simp at g3; omega)])
  · have : n = l := by simp at g1; omega
    subst this
    refine ⟨_, _, _, rfl, ?_, k1⟩
    rwa [← hlen, List.take_length] at S1
end Go.Proofs.YtjfafkgjcgbgfaaDoor
