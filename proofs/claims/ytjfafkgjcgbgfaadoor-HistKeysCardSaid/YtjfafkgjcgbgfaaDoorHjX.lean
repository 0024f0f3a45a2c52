import Derived.Test.YtjfafkgjcgbgfaaDoorHjV
set_option maxRecDepth 20000
namespace Go.Proofs.YtjfafkgjcgbgfaaDoor
open Go Go.Vc Go.RowKit
/-! # the reference's line -/
def tl (ws : List ByteArray) : List UInt8 := (ws.map fun x => 32 :: x.data.toList).flatten
theorem tl_app (a b : List ByteArray) : tl (a ++ b) = tl a ++ tl b := by simp [tl]
theorem tl_one (x : ByteArray) : tl [x] = 32 :: x.data.toList := by simp [tl]
theorem lineT_eq (m : Mv) : lineT m = (nW m.life).data.toList ++ tl ([nW m.frm, toW m, kindW m.kind.toNat] ++ (wkOf m ++ (wvOf m ++ weOf m))) := by
  have : ∀ r : List ByteArray, Lib.joinTail [32] (r.map (·.data.toList)) = tl r := fun r => by
    unfold Lib.joinTail tl
    rw [List.map_map]; rfl
  unfold lineT joinW
  rw [wordsOf, List.map_cons, Lib.join_cons, this]; rfl
theorem toW_len {m : Mv} (hA : Alone m) : (toW m).size ≤ 18 := by
  rw [s_size]
  unfold toW; split
  · simp
  · exact nW_len hA.b4
theorem nW_size {n : Int} (h : n < 1000000000000000000) : (nW n).size ≤ 18 := by rw [s_size]; exact nW_len h
theorem kindW_size (n : Nat) : (kindW n).size ≤ 7 := by rw [s_size]; exact kindW_len n
theorem hexW_size (b : ByteArray) : (hexW b).size ≤ 2 * b.size + 1 := by rw [s_size]; exact hexW_len b
abbrev blank : ByteArray := ⟨#[32]⟩
theorem line35 {w : World} {m : Mv} (hA : Alone m) (hk : m.key.size ≤ 1048576) (hv : m.val.size ≤ 1048576) :
    Calls Tryd.prog 35 #[mvV m] w (Ret fun v w' => v = .string ⟨(lineT m).toArray⟩ ∧ Chg none_ w w') := by
  have a1 := hA.k1
  have a2 := hA.k2
  have z1 := nW_size hA.b2
  have z2 := nW_size hA.b3
  have z3 := toW_len hA
  have z4 := kindW_size m.kind.toNat
  have z5 := hexW_size m.key
  have z6 := hexW_size m.val
  have z7 := nW_size hA.b1
  have zb : blank.size = 1 := rfl
  refine f35.calls _ _ _ _ _ _ _ _ ?_
  unfold f35.wp
  refine newBox fun w1 B1 k1 s1 => ?_
  refine ⟨fun x w2 => x.data.toList = (nW m.life).data.toList ++ (tl [nW m.frm] ++ [32]) ∧ x.size ≤ 38 ∧ Chg none_ w1 w2, ?_, ?_⟩
  rotate_left
  · have k1d := k1.drew
    have B1d := B1.drew
    refine ⟨fun p => p.block < w1.drew.heap.size, m.life, B1d.lt, (B1d.cell0 5).trans rfl, m.frm, B1d.lt, (B1d.cell0 6).trans rfl, Calls.use (number49 hA.l0 hA.b2) ?_⟩
    rintro _ w3 ⟨rfl, k3⟩
    obtain ⟨s2, r2, d2, y2⟩ := cat (P := Tryd.prog) (t := 9) (X := .tmp 6) (Y := .const (.string blank)) (w := w3) (a := nW m.life) (b := blank) (by omega) (by omega)
    refine ⟨_, rfl, k3.keeps, ⟨s2, _, r2, k3.keeps, Calls.use (number49 hA.f0 hA.b3) ?_⟩, Calls.use (number49 hA.f0 hA.b3) ?_⟩
    · rintro _ w5 ⟨rfl, k5⟩
      obtain ⟨s4, r4, d4, y4⟩ := cat (P := Tryd.prog) (t := 9) (X := .tmp 7) (Y := .tmp 10) (w := w5) (a := s2) (b := nW m.frm) (by omega) (by omega)
      obtain ⟨s5, r5, d5, y5⟩ := cat (P := Tryd.prog) (t := 9) (X := .tmp 11) (Y := .const (.string blank)) (w := w5) (a := s4) (b := blank) (by omega) (by omega)
      exact ⟨_, rfl, (k3.trans k5).keeps, s4, _, r4, s5, _, r5, by rw [d5, d4, d2]; simp [tl], by omega, (Chg.refl none_ w1).drew.trans (k3.trans k5)⟩
    · rintro _ w5 ⟨rfl, k5⟩
      obtain ⟨s7, r7, d7, y7⟩ := cat (P := Tryd.prog) (t := 9) (X := .tmp 6) (Y := .const (.string blank)) (w := w5) (a := nW m.life) (b := blank) (by omega) (by omega)
      obtain ⟨s4, r4, d4, y4⟩ := cat (P := Tryd.prog) (t := 9) (X := .tmp 7) (Y := .tmp 10) (w := w5) (a := s7) (b := nW m.frm) (by omega) (by omega)
      obtain ⟨s5, r5, d5, y5⟩ := cat (P := Tryd.prog) (t := 9) (X := .tmp 11) (Y := .const (.string blank)) (w := w5) (a := s4) (b := blank) (by omega) (by omega)
      exact ⟨_, rfl, (k3.trans k5).keeps, s7, _, r7, (k3.trans k5).keeps, s4, _, r4, s5, _, r5, by rw [d5, d4, d7]; simp [tl], by omega, (Chg.refl none_ w1).drew.trans (k3.trans k5)⟩
  rintro x1 w2 ⟨e1, y1, k2⟩
  have B2 := k2.blk B1 (fun x => x)
  refine ⟨fun x w2 => x.data.toList = (nW m.life).data.toList ++ tl [nW m.frm, toW m] ∧ x.size ≤ 56 ∧ Chg none_ w1 w2, ?_, m.to, (B2.cell0 7).trans rfl, bc (fun g => ?_) fun g => ⟨m.to, (B2.cell0 7).trans rfl, Calls.use (number49 (by simp at g; omega) hA.b4) ?_⟩⟩
  rotate_left
  · have ht : toW m = dashW := by unfold toW; rw [if_pos (by simpa using g)]
    obtain ⟨s, r, d, y⟩ := cat (P := Tryd.prog) (t := 9) (X := .tmp 16) (Y := .const (.string dashW)) (w := w2) (a := x1) (b := dashW) (by omega) (by decide)
    exact ⟨s, _, r, by rw [d, e1, ht]; simp [tl], by rw [y]; show _ + 1 ≤ _; omega, k2⟩
  · rintro _ w14 ⟨rfl, k14⟩
    have ht : toW m = nW m.to := by unfold toW; rw [if_neg (by simp at g; omega)]
    rw [ht] at z3
    obtain ⟨s, r, d, y⟩ := cat (P := Tryd.prog) (t := 9) (X := .tmp 18) (Y := .tmp 21) (w := w14) (a := x1) (b := nW m.to) (by omega) (by omega)
    exact ⟨_, rfl, s, _, r, by rw [d, e1, ht]; simp [tl], by omega, k2.trans k14⟩
  rintro x2 w12 ⟨e2, y2, k12⟩
  have B12 := k12.blk B1 (fun x => x)
  refine ⟨m.kind, (B12.cell 0).trans rfl, Calls.use (kindName50 (by omega) a2) ?_⟩
  rintro _ w16 ⟨rfl, k16⟩
  obtain ⟨s14, r14, d14, y14⟩ := cat (P := Tryd.prog) (t := 9) (X := .const (.string blank)) (Y := .tmp 26) (w := w16) (a := blank) (b := kindW m.kind.toNat) (by omega) (by omega)
  obtain ⟨s15, r15, d15, y15⟩ := cat (P := Tryd.prog) (t := 9) (X := .tmp 23) (Y := .tmp 27) (w := w16) (a := x2) (b := s14) (by omega) (by omega)
  have k116 := k12.trans k16
  have B16 := k116.blk B1 (fun x => x)
  have e15 : s15.data.toList = (nW m.life).data.toList ++ tl [nW m.frm, toW m, kindW m.kind.toNat] := by rw [d15, d14, e2]; simp [tl]
  refine ⟨_, rfl, s14, _, r14, s15, _, r15, fun x w2 => x.data.toList = (nW m.life).data.toList ++ tl ([nW m.frm, toW m, kindW m.kind.toNat] ++ wkOf m) ∧ x.size ≤ 3000100 ∧ Chg none_ w1 w2, ?_, m.kind, (B16.cell 0).trans rfl, bc (fun g => ⟨m.key, (B16.cell0 1).trans rfl, Calls.use (hex51 m.key (by omega)) ?_⟩) fun g => ⟨?_, by omega, k116⟩⟩
  rotate_left
  · rintro _ w20 ⟨rfl, k20⟩
    obtain ⟨s18, r18, d18, y18⟩ := cat (P := Tryd.prog) (t := 9) (X := .const (.string blank)) (Y := .tmp 35) (w := w20) (a := blank) (b := hexW m.key) (by omega) (by omega)
    obtain ⟨s19, r19, d19, y19⟩ := cat (P := Tryd.prog) (t := 9) (X := .tmp 32) (Y := .tmp 36) (w := w20) (a := s15) (b := s18) (by omega) (by omega)
    have hw : wkOf m = [hexW m.key] := by unfold wkOf; rw [if_pos (by simpa using g)]
    exact ⟨_, rfl, s18, _, r18, s19, _, r19, by rw [d19, d18, e15, hw, tl_app, tl_one]; simp, by omega, k116.trans k20⟩
  · have hw : wkOf m = [] := by unfold wkOf; rw [if_neg (by simpa using g)]
    rw [e15, hw, List.append_nil]
  rintro x3 w19 ⟨e3, y3, k19⟩
  have B19 := k19.blk B1 (fun x => x)
  refine ⟨fun x w2 => x.data.toList = (nW m.life).data.toList ++ tl ([nW m.frm, toW m, kindW m.kind.toNat] ++ (wkOf m ++ wvOf m)) ∧ x.size ≤ 6000200 ∧ Chg none_ w1 w2, ?_, m.kind, (B19.cell 0).trans rfl, bc (fun g => ⟨m.val, (B19.cell0 2).trans rfl, Calls.use (hex51 m.val (by omega)) ?_⟩) fun g => ⟨?_, by omega, k19⟩⟩
  rotate_left
  · rintro _ w24 ⟨rfl, k24⟩
    obtain ⟨s22, r22, d22, y22⟩ := cat (P := Tryd.prog) (t := 9) (X := .const (.string blank)) (Y := .tmp 44) (w := w24) (a := blank) (b := hexW m.val) (by omega) (by omega)
    obtain ⟨s23, r23, d23, y23⟩ := cat (P := Tryd.prog) (t := 9) (X := .tmp 41) (Y := .tmp 45) (w := w24) (a := x3) (b := s22) (by omega) (by omega)
    have hw : wvOf m = [hexW m.val] := by unfold wvOf; rw [if_pos (by simpa using g)]
    exact ⟨_, rfl, s22, _, r22, s23, _, r23, by rw [d23, d22, e3, hw]; simp [tl], by omega, k19.trans k24⟩
  · have hw : wvOf m = [] := by unfold wvOf; rw [if_neg (by simpa using g)]
    rw [e3, hw, List.append_nil]
  rintro x4 w23 ⟨e4, y4, k23⟩
  have B23 := k23.blk B1 (fun x => x)
  have fin : ∀ (s : ByteArray) (us : List ByteArray), s.data.toList = x4.data.toList ++ tl us → weOf m = us → Value.string s = .string ⟨(lineT m).toArray⟩ := fun s us h hw => by
    have : s.data.toList = lineT m := by
      rw [h, e4, lineT_eq, hw, List.append_assoc, ← tl_app, List.append_assoc, List.append_assoc]
    rw [ba_of this]
  have k023 := k1.trans k23
  refine ⟨m.to, (B23.cell0 7).trans rfl, bc (fun g => ⟨fin x4 [] (by simp [tl]) ?_, k023⟩) fun g => ⟨m.hit, (B23.cell0 4).trans rfl, bc (fun g1 => ?_) fun g1 => ⟨m.err, (B23.cell0 3).trans rfl, bc (fun g2 => ?_) fun g2 => ⟨m.kind, (B23.cell 0).trans rfl, bc (fun g3 => ?_) fun g3 => ?_⟩⟩⟩⟩
  · unfold weOf; rw [if_pos (by simpa using g)]
  · obtain ⟨s24, r24, d24, y24⟩ := cat (P := Tryd.prog) (t := 9) (X := .tmp 54) (Y := .const (.string ⟨#[32, 104, 105, 116, 32]⟩)) (w := w23) (a := x4) (b := ⟨#[32, 104, 105, 116, 32]⟩) (by omega) (by decide)
    have y24' : s24.size = x4.size + 5 := y24
    refine ⟨s24, _, r24, m.val, (B23.cell0 2).trans rfl, Calls.use (hex51 m.val (by omega)) ?_⟩
    rintro _ w28 ⟨rfl, k28⟩
    obtain ⟨s27, r27, d27, y27⟩ := cat (P := Tryd.prog) (t := 9) (X := .tmp 55) (Y := .tmp 58) (w := w28) (a := s24) (b := hexW m.val) (by omega) (by omega)
    refine ⟨_, rfl, s27, _, r27, fin s27 [hitW, hexW m.val] (by rw [d27, d24]; simp [tl]) ?_, k023.trans k28⟩
    obtain ⟨h1, h2⟩ := hA.ht g1
    unfold weOf; rw [if_neg (by simpa using g), if_neg (by simp [h2]), if_neg (by simp [h1]), if_pos g1]
  · obtain ⟨s28, r28, d28, y28⟩ := cat (P := Tryd.prog) (t := 9) (X := .tmp 64) (Y := .const (.string ⟨#[32, 101, 114, 114, 32]⟩)) (w := w23) (a := x4) (b := ⟨#[32, 101, 114, 114, 32]⟩) (by omega) (by decide)
    have y28' : s28.size = x4.size + 5 := y28
    refine ⟨s28, _, r28, m.err, (B23.cell0 3).trans rfl, Calls.use (number49 hA.er hA.b1) ?_⟩
    rintro _ w31 ⟨rfl, k31⟩
    obtain ⟨s30, r30, d30, y30⟩ := cat (P := Tryd.prog) (t := 9) (X := .tmp 65) (Y := .tmp 68) (w := w31) (a := s28) (b := nW m.err) (by omega) (by omega)
    refine ⟨_, rfl, s30, _, r30, fin s30 [errW, nW m.err] (by rw [d30, d28]; simp [tl]) ?_, k023.trans k31⟩
    unfold weOf; rw [if_neg (by simpa using g), if_pos (by simpa using g2)]
  · obtain ⟨s31, r31, d31, y31⟩ := cat (P := Tryd.prog) (t := 9) (X := .tmp 74) (Y := .const (.string ⟨#[32, 109, 105, 115, 115]⟩)) (w := w23) (a := x4) (b := ⟨#[32, 109, 105, 115, 115]⟩) (by omega) (by decide)
    refine ⟨s31, _, r31, fin s31 [missW] (by rw [d31]; simp [tl]) ?_, k023⟩
    unfold weOf; rw [if_neg (by simpa using g), if_neg (by simpa using g2), if_neg (by simpa using g3), if_neg (by rw [g1]; simp)]
  · obtain ⟨s32, r32, d32, y32⟩ := cat (P := Tryd.prog) (t := 9) (X := .tmp 76) (Y := .const (.string ⟨#[32, 111, 107]⟩)) (w := w23) (a := x4) (b := ⟨#[32, 111, 107]⟩) (by omega) (by decide)
    refine ⟨s32, _, r32, fin s32 [okW] (by rw [d32]; simp [tl]) ?_, k023⟩
    unfold weOf; rw [if_neg (by simpa using g), if_neg (by simpa using g2), if_pos (by simpa using g3)]
section
variable {w : World} {q : Option Addr} {l c : Nat} {ms : List Mv}
theorem flat_u8 (l : List UInt8) : En.u8.flat l = Lib.strCells ⟨l.toArray⟩ := by
  rw [strC]
  induction l with
  | nil => rfl
  | cons x xs ih => simp only [En.flat] at ih ⊢; rw [List.flatMap_cons, ih]; rfl
theorem print21 (H : RE En.mv w q l ms) (hs : Small ms) : Calls Tryd.prog 21 #[.slice q l c] w (Ret fun v w' => ∃ s e, v = .tuple #[.string s, .int .i64 e] ∧ prR ms s e ∧ Chg none_ w w') := by
  have hlen := H.len
  refine f21.calls _ _ _ ?_
  unfold f21.wp
  refine Calls.use (check13 H) ?_
  rintro _ w1 ⟨a, b, rfl, hck, k1⟩
  refine ⟨a, b, rfl, bc (fun g => ⟨_, _, rfl, .inl ⟨a, hck, by simpa using g, rfl⟩, k1⟩) fun g => ?_⟩
  have hb : b = 0 := by simpa using g
  subst hb
  have ha : a = 0 := by cases hck; rfl
  subst ha
  have hal := hck.alive
  refine ⟨fun q l' c x w3 => ∃ i : Nat, x = (i : Int) ∧ i ≤ l ∧ SE En.u8 w3 w1.heap.size 5 q l' c (textT (ms.take i)) ∧ (textT (ms.take i)).length ≤ 65536 ∧ Chg none_ w1 w3, fun _ _ _ x _ => l - x.toNat, ⟨0, rfl, by omega, SE.nil _ _ _ _, by simp [textT], Chg.refl _ _⟩, ?_⟩
  rintro q1 l1 c1 _ w3 ⟨i, rfl, hi, S3, hl3, k3⟩
  have hl1 := S3.len
  refine bc (fun g => ?_) fun g => ?_
  · have g : i < l := by simp at g; omega
    obtain ⟨p, m, hp, hm, hr⟩ := (H.chg (k1.trans k3)).ex g
    subst hp
    have hmem := List.mem_of_getElem? hm
    have hA := (oks_pair.1 hal.2).1 m hmem
    obtain ⟨hz1, hz2⟩ := hs m hmem
    have hll := line_len hA hz1 hz2
    refine onPtr_mk ⟨by omega, by omega, m.kind, m.key, m.val, m.err, m.hit, m.life, m.frm, m.to, hr, boxed rfl rfl fun w5 B5 k5 s5 => ⟨_, _, _, _, _, _, _, _, B5.reads0, Calls.use (line35 hA hz1 hz2) ?_⟩⟩
    rintro _ w6 ⟨rfl, k6⟩
    have hsz : (⟨(lineT m).toArray⟩ : ByteArray).size = (lineT m).length := ba_size _
    have k36 := k5.trans k6
    have k16 := k3.trans k36
    obtain ⟨q2, c2, w7, hrun, S7, k7, _⟩ := (S3.chgN k36).appendS (t := 89) (u := 9) (ty := 89) (s := ⟨(lineT m).toArray⟩) elemU8 Tryd.underlying9 rfl (flat_u8 _) (by rw [hsz]; simp only [maxLen]; omega) (by rw [hsz]; omega) k16.size
    have k17 := k16.up k7 fun k hk => ((S3.chgN k36).lt hk.symm).2
    refine ⟨_, rfl, q2, _, c2, w7, hrun, fun w8 e8 => ?_⟩
    have k8 := (Chg.refl none_ w7).new' e8
    have k18 := k17.trans k8
    have L : RE En.u8 w8 (some ⟨w7.heap.size, 0, none⟩) 1 [10] := lit_u8 e8 rfl
    have S8 := S7.chgN k8
    obtain ⟨q3, c3, w9, hrun9, S9, k9, _⟩ := S8.append (t := 89) (ty := 89) (c2 := 1) elemU8 L (by rw [hsz]; simp only [maxLen]; omega) (by rw [hsz]; omega) k18.size
    have k19 := k18.up k9 fun k hk => (S8.lt hk.symm).2
    rw [List.append_assoc, ← textT_next hm] at S9
    have hl9 := S9.len
    refine ⟨q3, _, c3, w9, hrun9, bc (fun g1 => ⟨_, _, rfl, .inr (.inr ⟨hck, ?_, rfl, rfl⟩), k1.trans k19⟩) fun g1 => ?_⟩
    · have := textT_take ms (i + 1)
      simp at g1; omega
    · rw [wrapN (by omega)]
      exact ⟨⟨i + 1, rfl, by omega, S9, by simp at g1; omega, k19⟩, by simp only [Int.toNat_natCast]; omega⟩
  · have hie : i = l := by simp at g; omega
    subst hie
    rw [List.take_of_length_le (by omega)] at S3 hl3
    exact ⟨_, _, conv89 S3.re, _, _, rfl, .inr (.inl ⟨hck, hl3, rfl, rfl⟩), k1.trans k3⟩
end
end Go.Proofs.YtjfafkgjcgbgfaaDoor
