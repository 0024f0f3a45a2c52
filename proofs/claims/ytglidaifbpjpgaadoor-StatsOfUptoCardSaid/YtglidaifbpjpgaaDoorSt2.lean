import Derived.Test.YtglidaifbpjpgaaDoorSt1
import Derived.Test.YtglidaifbpjpgaaDoorStI
set_option maxRecDepth 20000
namespace Go.Proofs.YtglidaifbpjpgaaDoor
namespace Mo
open Go Go.Vc Go.RowKit
section
variable {w : World} {q1 q2 q3 : Option Addr} {l1 c1 l2 c2 l3 c3 : Nat} {css : List (List (List Cl))} {ts : List Tl} {ds : List Dv} {i1 i2 i3 i4 i5 i6 i7 i8 i9 i10 i11 i12 i13 i14 i15 i16 : Int}
theorem of34 (hC : SL w q1 l1 css) (hT : TL w q2 l2 ts) (hD : TD w q2 l2 ds) (ht : tot ts ≤ 1048576) (hl2 : l2 ≤ 1048576) :
    Calls Tryd.prog 34 #[.agg #[.int .i64 i1, .int .i64 i2, .int .i64 i3, .int .i64 i4, .int .i64 i5, .int .i64 i6, .int .i64 i7, .int .i64 i8, .int .i64 i9, .int .i64 i10, .int .i64 i11, .int .i64 i12, .int .i64 i13, .int .i64 i14, .int .i64 i15, .int .i64 i16, .slice q1 l1 c1], .agg #[.slice q2 l2 c2, .slice q3 l3 c3]] w (Ret (OfR false kpR css ts ds i1 w)) := by
  have eds := hD.len
  refine f34.calls _ _ _ _ _ _ _ _ _ _ _ _ _ _ _ _ _ _ _ _ _ _ _ _ _ ?_
  unfold f34.wp
  refine newBox fun w1 B1 k1 s1 => newBox fun w2 B2 k2 s2 => newBox fun w3 B3 k3 s3 => ?_
  have A1 := (k2.trans k3).blk B1 (fun x => x)
  have A2 := k3.blk B2 (fun x => x)
  have k03 := k1.trans (k2.trans k3)
  refine ⟨i1, i2, i3, i4, i5, i6, i7, i8, i9, i10, i11, i12, i13, i14, i15, i16, q1, l1, c1, A1.reads0, q2, l2, c2, q3, l3, c3, A2.reads0, Calls.use (moves10 (hC.chg k03) (hT.chg k03) ht hl2) ?_⟩
  intro v w4 h4
  obtain ⟨k4, q4, l4, c4, out, e, rfl, S4, hl4, ho⟩ := h4.uni
  have B3' := k4.blk B3 (fun x => x)
  have k04 := k03.trans k4
  refine ⟨q4, l4, c4, e, rfl, bc (fun g => B3'.store rfl rfl fun w5 B5 k5 s5 => ⟨_, _, _, _, _, _, _, _, _, _, _, _, _, _, _, B5.reads0, ?_⟩) fun g => ?_⟩
  · refine ⟨k04.up k5 fun k hk => by have := k1.size; have := k2.size; omega, zeros, e, rfl, rfl, ?_⟩
    rcases ho with ⟨rfl, _⟩ | ⟨rfl, _, hn⟩
    · simp at g
    · exact .inr ⟨rfl, rfl, hn⟩
  have he : e = 0 := by simpa using g
  subst he
  have hT0 : Tells false kpR css ts out := by rcases ho with ⟨_, h⟩ | ⟨h, _⟩; exact h; cases h
  refine newBox fun w6 B6 k6 s6 => ?_
  have hC6 : Cb w6 w4.heap.size zeros := ⟨B6, rfl⟩
  have hlo := S4.len
  refine ⟨fun x w8 => ∃ i : Nat, x = (i : Int) ∧ i ≤ l4 ∧ Cb w8 w4.heap.size (fo (out.take i)) ∧ Chg none_ w4 w8, fun x _ => l4 - x.toNat, ⟨0, rfl, by omega, hC6, k6⟩, ?_⟩
  rintro _ w8 ⟨i, rfl, hi, C8, k8⟩
  have k08 := k04.trans k8
  have z4 := k04.size
  have zs1 := k1.size
  have zs2 := k2.size
  have zs3 := k3.size
  have zs4 := k4.size
  have up : ∀ {a b : World}, Chg none_ w4 a → Chg (fun k => k = w4.heap.size) a b → Chg none_ w4 b := fun h h' => h.up h' fun k hk => by omega
  refine bc (fun g1 => ?_) fun g1 => ?_
  · have g1 : i < l4 := by simp at g1; omega
    obtain ⟨a, m, ha, hm, hr⟩ := (S4.chgN k8).re.ex g1
    subst ha
    have hnx := fo_next hm
    obtain ⟨hk1, hk5⟩ := hT0.kinds hm
    rw [wrapN (by omega)]
    refine onPtr_mk ⟨by omega, by omega, m.kind, m.key, m.val, m.err, m.hit, m.life, m.frm, m.to, hr, boxed rfl rfl fun w10 B10 k10 s10 => ?_⟩
    have C10 := C8.chg k10 (fun x => x)
    have k410 := k8.trans k10
    have ne8 : ¬ w8.heap.size = w4.heap.size := by have := C8.blk.lt; omega
    have fin : ∀ w', Cb w' w4.heap.size (stp (fo (out.take i)) m) → Chg (fun k => k = w4.heap.size) w10 w' → (∃ j : Nat, ((i + 1 : Nat) : Int) = (j : Int) ∧ j ≤ l4 ∧ Cb w' w4.heap.size (fo (out.take j)) ∧ Chg none_ w4 w') ∧ l4 - ((i + 1 : Nat) : Int).toNat < l4 - (i : Int).toNat := fun w' hc k => ⟨⟨i + 1, rfl, by omega, by rw [hnx]; exact hc, up k410 k⟩, by simp only [Int.toNat_natCast]; omega⟩
    refine ⟨m.to, (B10.cell0 7).trans rfl, bc (fun g2 => ⟨_, C10.cell (i := 9) (by omega), C10.can (by omega), fun w11 e11 => ?_⟩) fun g2 => ?_⟩
    · obtain ⟨h11, k11⟩ := C10.put e11
      refine fin _ ?_ k11
      unfold stp
      rw [if_pos (by simpa using g2)]; exact h11
    have g2 : ¬ m.to < 0 := by simpa using g2
    refine ⟨fun x w18 => w10 = w18 ∧ (x = true ↔ m.err = 191 ∧ m.kind = 2), ?_, m.kind, (B10.cell 0).trans rfl, bc (fun g4 => ⟨m.err, (B10.cell0 3).trans rfl, rfl, ?_⟩) fun g4 => ⟨rfl, ?_⟩⟩
    · rintro x _ ⟨rfl, hx⟩
      refine bc (fun g4 => ⟨_, C10.cell (i := 4) (by omega), C10.can (by omega), fun w19 e19 => ?_⟩) fun g4 => ⟨m.err, (B10.cell0 3).trans rfl, bc (fun g5 => ⟨_, C10.cell (i := 8) (by omega), C10.can (by omega), fun w20 e20 => ?_⟩) fun g5 => ?_⟩
      · obtain ⟨h19, k19⟩ := C10.put e19
        have := hx.1 g4
        refine fin _ ?_ k19
        unfold stp
        rw [if_neg g2, if_neg (by omega), if_pos this]; exact h19
      · obtain ⟨h20, k20⟩ := C10.put e20
        refine fin _ ?_ k20
        unfold stp
        rw [if_neg g2, if_neg (by simpa using g5), if_neg (fun hh => by rw [hx.2 hh] at g4; cases g4)]; exact h20
      have e1 : stp (fo (out.take i)) m = kindS m (fo (out.take i)) := by
        unfold stp
        rw [if_neg g2, if_pos (by simpa using g5)]
      rw [e1] at fin
      refine ⟨m.kind, (B10.cell 0).trans rfl, bc (fun y1 => ⟨_, C10.cell', C10.can', fun w14 e14 => ?_⟩) fun y1 => ⟨m.kind, (B10.cell 0).trans rfl, bc (fun y2 => ⟨_, C10.cell (i := 3) (by omega), C10.can (by omega), fun w17 e17 => ?_⟩) fun y2 => ⟨m.kind, (B10.cell 0).trans rfl, bc (fun y3 => ⟨_, C10.cell (i := 5) (by omega), C10.can (by omega), fun w19 e19 => ?_⟩) fun y3 => ⟨m.kind, (B10.cell 0).trans rfl, bc (fun y4 => ⟨_, C10.cell (i := 6) (by omega), C10.can (by omega), fun w20 e20 => ?_⟩) fun y4 => ⟨m.kind, (B10.cell 0).trans rfl, bc (fun y5 => ⟨_, C10.cell (i := 7) (by omega), C10.can (by omega), fun w21 e21 => ?_⟩) fun y5 => ?_⟩⟩⟩⟩⟩
      · obtain ⟨h14, k14⟩ := C10.put' e14
        have B14 := k14.blk B10 ne8
        have y1 : m.kind = 1 := by simpa using y1
        refine ⟨m.hit, (B14.cell0 4).trans rfl, bc (fun g6 => ⟨_, h14.cell (i := 1) (by omega), h14.can (by omega), fun w15 e15 => ?_⟩) fun g6 => ⟨_, h14.cell (i := 2) (by omega), h14.can (by omega), fun w16 e16 => ?_⟩⟩
        · obtain ⟨h15, k15⟩ := h14.put e15
          refine fin _ ?_ (k14.trans k15)
          unfold kindS getS
          rw [if_pos y1, if_pos g6]; exact h15
        · obtain ⟨h16, k16⟩ := h14.put e16
          refine fin _ ?_ (k14.trans k16)
          unfold kindS getS
          rw [if_pos y1, if_neg (by rw [g6]; simp)]; exact h16
      · obtain ⟨h17, k17⟩ := C10.put e17
        have B17 := k17.blk B10 ne8
        refine ⟨_, h17.cell (i := 10) (by omega), m.key, (B17.cell0 1).trans rfl, m.val, (B17.cell0 2).trans rfl, h17.can (by omega), fun w18 e18 => ?_⟩
        obtain ⟨h18, k18⟩ := h17.put e18
        refine fin _ ?_ (k17.trans k18)
        unfold kindS putS
        rw [if_neg (by simpa using y1), if_pos (by simpa using y2)]; exact h18
      · obtain ⟨h19, k19⟩ := C10.put e19
        refine fin _ ?_ k19
        unfold kindS
        rw [if_neg (by simpa using y1), if_neg (by simpa using y2), if_pos (by simpa using y3)]; exact h19
      · obtain ⟨h20, k20⟩ := C10.put e20
        refine fin _ ?_ k20
        unfold kindS
        rw [if_neg (by simpa using y1), if_neg (by simpa using y2), if_neg (by simpa using y3), if_pos (by simpa using y4)]; exact h20
      · obtain ⟨h21, k21⟩ := C10.put e21
        refine fin _ ?_ k21
        unfold kindS
        rw [if_neg (by simpa using y1), if_neg (by simpa using y2), if_neg (by simpa using y3), if_neg (by simpa using y4)]; exact h21
      · simp at y1 y2 y3 y4 y5; omega
    · simp at g4; simp [g4]
    · simp at g4; simp [g4]
  · have hie : i = l4 := by simp at g1; omega
    subst hie
    rw [← hlo, List.take_length] at C8
    have A2' := (k4.trans k8).blk A2 (fun x => x)
    have A1' := (k4.trans k8).blk A1 (fun x => x)
    have B38 := k8.blk B3' (fun x => x)
    refine ⟨q2, l2, c2, (A2'.cell 0).trans rfl, bc (fun g2 => ?_) fun g2 => ?_⟩
    · have hl0 : l2 = 0 := by simp at g2; omega
      have hf : fin out ds i1 = fo out := by unfold fin; rw [List.getElem?_eq_none (by omega)]
      rw [← hf] at C8
      have hlen := C8.len
      generalize hcs : fin out ds i1 = cs at C8 hlen
      obtain ⟨a0, a1, a2, a3, a4, a5, a6, a7, a8, a9, a10, a11, a12, a13, a14, rfl⟩ := fifteen hlen
      exact ⟨_, _, _, _, _, _, _, _, _, _, _, _, _, _, _, C8.blk.reads0, B38.store rfl rfl fun w22 B22 k22 s22 => ⟨_, _, _, _, _, _, _, _, _, _, _, _, _, _, _, B22.reads0, k08.up k22 fun k hk => by omega, [a0, a1, a2, a3, a4, a5, a6, a7, a8, a9, a10, a11, a12, a13, a14], 0, rfl, rfl, .inl ⟨rfl, out, hT0, hcs.symm⟩⟩⟩
    · have hl0 : 0 < l2 := by simp at g2; omega
      obtain ⟨d, hd⟩ := get_ex (l := ds) (i := l2 - 1) (by omega)
      obtain ⟨a, qu, lu, cu, ha, hr0, hw, hlu⟩ := hD.get _ d hd
      have hr := k08.readsN hr0
      have hwl := hw.len
      have hwp : IntKind.wrap .i64 ((l2 : Int) - 1) = ((l2 - 1 : Nat) : Int) := by rw [wrapS (by omega) (by omega)]; omega
      refine ⟨q2, l2, c2, (A2'.cell 0).trans rfl, q2, l2, c2, (A2'.cell 0).trans rfl, ?_⟩
      rw [ha, hwp]
      refine onPtr_mk ⟨by omega, by omega, d.c1, d.prog, d.er, d.c4, d.c5, qu, lu, cu, hr, boxed rfl rfl fun w24 B24 k24 s24 => ?_⟩
      have B24d := B24.drew
      have k824 : Chg none_ w8 w24.drew := k24.drew
      have C24 := (C8.chg k24 (fun x => x)).drew
      have A1d := (k24.blk A1' (fun x => x)).drew
      have ne8 : ¬ w8.heap.size = w4.heap.size := by have := C8.blk.lt; omega
      refine ⟨fun p => p.block < w24.drew.heap.size, d.prog, cell_some ((B24d.cell0 1).trans rfl), (B24d.cell0 1).trans rfl, i1, cell_some ((A1d.cell 0).trans rfl), (A1d.cell 0).trans rfl, Calls.use (at51 d.prog) ?_⟩
      rintro _ _ ⟨rfl, rfl⟩
      refine ⟨_, rfl, fun _ _ => rfl, Calls.use (at51 i1) ?_⟩
      rintro _ _ ⟨rfl, rfl⟩
      refine ⟨_, rfl, Calls.use (times50 (at0_nn i1)) ?_⟩
      rintro _ _ ⟨rfl, rfl⟩
      refine ⟨_, rfl, C24.can (by omega), fun w28 e28 => ?_⟩
      obtain ⟨C28, k28⟩ := C24.put e28
      have B28 := k28.blk B24d ne8
      refine ⟨d.er, (B28.cell0 2).trans rfl, Calls.use (at51 d.er) ?_⟩
      rintro _ _ ⟨rfl, rfl⟩
      refine ⟨_, rfl, C28.can (by omega), fun w30 e30 => ?_⟩
      obtain ⟨C30, k30⟩ := C28.put e30
      have B30 := k30.blk B28 ne8
      have k430 : Chg none_ w4 w30 := up (up (k8.trans k824) k28) k30
      refine ⟨qu, lu, cu, (B30.cell0 5).trans rfl, fun x w31 => ∃ j : Nat, x = (j : Int) ∧ j ≤ lu ∧ Cb w31 w4.heap.size (wrN d.wear (((fo out).set 11 (wrt (at0 d.prog) (at0 i1))).set 12 (at0 d.er)) j) ∧ Chg none_ w4 w31, fun x _ => lu - x.toNat, ⟨0, rfl, by omega, C30, k430⟩, ?_⟩
      rintro _ w31 ⟨j, rfl, hj, C31, k31⟩
      refine bc (fun g3 => ?_) fun g3 => ?_
      · have g3 : j < lu := by simp at g3; omega
        obtain ⟨a3, x, ha3, hx, hrx⟩ := hw.ex g3
        subst ha3
        rw [wrapN (by omega)]
        have hnx := wrN_next (cs := ((fo out).set 11 (wrt (at0 d.prog) (at0 i1))).set 12 (at0 d.er)) hx
        refine onPtr_mk ⟨by omega, by omega, x, reads_one' ((k04.trans k31).readsN hrx), Calls.use (at51 x) ?_⟩
        rintro _ _ ⟨rfl, rfl⟩
        refine ⟨_, rfl, fun w33 => (∃ c, Cb w33 w4.heap.size c ∧ c = (if j = 0 ∨ at0 x < gt (wrN d.wear (((fo out).set 11 (wrt (at0 d.prog) (at0 i1))).set 12 (at0 d.er)) j) 13 then (wrN d.wear (((fo out).set 11 (wrt (at0 d.prog) (at0 i1))).set 12 (at0 d.er)) j).set 13 (at0 x) else (wrN d.wear (((fo out).set 11 (wrt (at0 d.prog) (at0 i1))).set 12 (at0 d.er)) j))) ∧ Chg none_ w4 w33, ?_, bc (fun g4 => ⟨C31.can (by omega), fun w34 e34 => ?_⟩) fun g4 => ⟨_, C31.cell (i := 13) (by omega), bc (fun g5 => ⟨C31.can (by omega), fun w35 e35 => ?_⟩) fun g5 => ?_⟩⟩
        · rintro w33 ⟨⟨c, C33, hc⟩, k33⟩
          refine ⟨_, C33.cell (i := 14) (by omega), bc (fun g6 => ⟨C33.can (by omega), fun w36 e36 => ?_⟩) fun g6 => ⟨⟨j + 1, rfl, by omega, ?_, k33⟩, by simp only [Int.toNat_natCast]; omega⟩⟩
          · obtain ⟨C36, k36⟩ := C33.put e36
            refine ⟨⟨j + 1, rfl, by omega, ?_, up k33 k36⟩, by simp only [Int.toNat_natCast]; omega⟩
            rw [hnx]
            unfold wst
            rw [← hc]
            show Cb w36 _ (if at0 x > gt c 14 then c.set 14 (at0 x) else c)
            rw [if_pos (of_decide_eq_true g6)]; exact C36
          · rw [hnx]
            unfold wst
            rw [← hc]
            show Cb w33 _ (if at0 x > gt c 14 then c.set 14 (at0 x) else c)
            rw [if_neg (of_decide_eq_false g6)]; exact C33
        · obtain ⟨C34, k34⟩ := C31.put e34
          exact ⟨⟨_, C34, (if_pos (Or.inl (by simpa using g4))).symm⟩, up k31 k34⟩
        · obtain ⟨C35, k35⟩ := C31.put e35
          exact ⟨⟨_, C35, (if_pos (Or.inr (of_decide_eq_true g5))).symm⟩, up k31 k35⟩
        · refine ⟨⟨_, C31, (if_neg ?_).symm⟩, k31⟩
          rintro (h | h)
          · simp at g4; exact g4 h
          · exact (of_decide_eq_false g5) h
      · have hje : j = lu := by simp at g3; omega
        subst hje
        have hf : fin out ds i1 = dev d i1 (fo out) := by unfold fin; rw [eds, hd]
        have hdv : dev d i1 (fo out) = wrN d.wear (((fo out).set 11 (wrt (at0 d.prog) (at0 i1))).set 12 (at0 d.er)) j := by unfold dev; rw [hwl]
        rw [← hdv, ← hf] at C31
        have B331 := ((k4.trans k31).blk B3 (fun x => x))
        have hlen := C31.len
        generalize hcs : fin out ds i1 = cs at C31 hlen
        obtain ⟨a0, a1, a2, a3, a4, a5, a6, a7, a8, a9, a10, a11, a12, a13, a14, rfl⟩ := fifteen hlen
        exact ⟨_, _, _, _, _, _, _, _, _, _, _, _, _, _, _, C31.blk.reads0, B331.store rfl rfl fun w37 B37 k37 s37 => ⟨_, _, _, _, _, _, _, _, _, _, _, _, _, _, _, B37.reads0, (k04.trans k31).up k37 fun k hk => by omega, [a0, a1, a2, a3, a4, a5, a6, a7, a8, a9, a10, a11, a12, a13, a14], 0, rfl, rfl, .inl ⟨rfl, out, hT0, hcs.symm⟩⟩⟩
theorem OfR.both {v v' : Value} {w w1 w' w1' : World} {page : Int} (h : OfR true kpP css ts ds page w v w') (k : OfR false kpR css ts ds page w1 v' w1') : v = v' := by
  obtain ⟨_, cs, e, rfl, _, h⟩ := h
  obtain ⟨_, cs', e', rfl, _, k⟩ := k
  rcases h with ⟨rfl, out, h, rfl⟩ | ⟨rfl, rfl, h⟩ <;> rcases k with ⟨rfl, out', k, rfl⟩ | ⟨rfl, rfl, k⟩
  · rw [(tells_iff.1 h).eq k]
  · exact absurd (tells_iff.1 h) (k _)
  · exact absurd (tells_iff.2 k) (h _)
  · rfl
theorem of8 (hC : SL w q1 l1 css) (hT : TL w q2 l2 ts) (hD : TD w q2 l2 ds) (ht : tot ts ≤ 1048576) (hl2 : l2 ≤ 1048576) :
    Calls Tryd.prog 8 #[.agg #[.int .i64 i1, .int .i64 i2, .int .i64 i3, .int .i64 i4, .int .i64 i5, .int .i64 i6, .int .i64 i7, .int .i64 i8, .int .i64 i9, .int .i64 i10, .int .i64 i11, .int .i64 i12, .int .i64 i13, .int .i64 i14, .int .i64 i15, .int .i64 i16, .slice q1 l1 c1, .slice q2 l2 c2, .slice q3 l3 c3]] w (Ret fun v w' => v = .bool true ∧ Chg none_ w w') := by
  refine f8.calls _ _ _ _ _ _ _ _ _ _ _ _ _ _ _ _ _ _ _ _ _ _ _ _ _ ?_
  unfold f8.wp
  refine newBox fun w1 B1 k1 s1 => ?_
  have rd1 : ∀ {w' : World}, Chg none_ w1 w' → reads w' (⟨w.heap.size, 0, none⟩ : Addr) [.int .i64 i1, .int .i64 i2, .int .i64 i3, .int .i64 i4, .int .i64 i5, .int .i64 i6, .int .i64 i7, .int .i64 i8, .int .i64 i9, .int .i64 i10, .int .i64 i11, .int .i64 i12, .int .i64 i13, .int .i64 i14, .int .i64 i15, .int .i64 i16, .slice q1 l1 c1] := fun k => bpart0 (k.blk B1 (fun x => x)) (post := [.slice q2 l2 c2, .slice q3 l3 c3]) rfl
  have rd2 : ∀ {w' : World}, Chg none_ w1 w' → reads w' ((⟨w.heap.size, 0, none⟩ : Addr).add 17) [.slice q2 l2 c2, .slice q3 l3 c3] := fun k => bpart (k.blk B1 (fun x => x)) (pre := [.int .i64 i1, .int .i64 i2, .int .i64 i3, .int .i64 i4, .int .i64 i5, .int .i64 i6, .int .i64 i7, .int .i64 i8, .int .i64 i9, .int .i64 i10, .int .i64 i11, .int .i64 i12, .int .i64 i13, .int .i64 i14, .int .i64 i15, .int .i64 i16, .slice q1 l1 c1]) (post := []) rfl rfl
  refine ⟨_, _, _, _, _, _, _, _, _, _, _, _, _, _, _, _, _, _, _, rd1 (Chg.refl _ _), _, _, _, _, _, _, rd2 (Chg.refl _ _), Calls.use (of33 (hC.chg k1) (hT.chg k1) (hD.chg k1) ht hl2) ?_⟩
  intro v2 w2 h2
  have h2' := h2
  obtain ⟨k2, cs, e, rfl, hl, _⟩ := h2
  obtain ⟨a0, a1, a2, a3, a4, a5, a6, a7, a8, a9, a10, a11, a12, a13, a14, rfl⟩ := fifteen hl
  refine ⟨_, _, _, _, _, _, _, _, _, _, _, _, _, _, _, e, rfl, boxed rfl rfl fun w4 B4 k4 s4 => ?_⟩
  have k14 := k2.trans k4
  refine ⟨_, _, _, _, _, _, _, _, _, _, _, _, _, _, _, _, _, _, _, rd1 k14, _, _, _, _, _, _, rd2 k14, Calls.use (of34 (hC.chg (k1.trans k14)) (hT.chg (k1.trans k14)) (hD.chg (k1.trans k14)) ht hl2) ?_⟩
  intro v5 w5 h5
  obtain rfl := h2'.both h5
  obtain ⟨k5, _⟩ := h5
  refine ⟨_, _, _, _, _, _, _, _, _, _, _, _, _, _, _, e, rfl, boxed rfl rfl fun w7 B7 k7 s7 => Calls.use (awake12 w7) ?_⟩
  rintro _ w8 ⟨rfl, k8⟩
  have B8 := k8.blk B7 (fun x => x)
  have B48 := (k5.trans (k7.trans k8)).blk B4 (fun x => x)
  refine ⟨true, rfl, bcT rfl ⟨_, _, _, _, _, _, _, _, _, _, _, _, _, _, _, B48.reads0, _, _, _, _, _, _, _, _, _, _, _, _, _, _, _, B8.reads0, bcT (by simp) ⟨by simp, k1.trans (k14.trans (k5.trans (k7.trans k8)))⟩⟩⟩
end
end Mo
end Go.Proofs.YtglidaifbpjpgaaDoor
