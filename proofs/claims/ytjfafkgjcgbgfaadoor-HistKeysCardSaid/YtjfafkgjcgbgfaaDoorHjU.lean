import Derived.Test.YtjfafkgjcgbgfaaDoorHjT
set_option maxRecDepth 20000
namespace Go.Proofs.YtjfafkgjcgbgfaaDoor
open Go Go.Vc Go.RowKit
/-! # how long a line is -/
theorem join_len (N : Nat) : ∀ ws : List ByteArray, (∀ x ∈ ws, x.data.toList.length ≤ N) → (joinW ws).length ≤ ws.length * (N + 1)
  | [], _ => by simp [joinW, Lib.join_nil]
  | [x], h => by
    have := h x (List.mem_cons_self ..)
    simp only [joinW, List.map_cons, List.map_nil, Lib.join_one, List.length_singleton]
    omega
  | x :: y :: r, h => by
    have h1 := h x (List.mem_cons_self ..)
    have h2 := join_len N (y :: r) fun z hz => h z (List.mem_cons_of_mem _ hz)
    have e : joinW (x :: y :: r) = x.data.toList ++ 32 :: joinW (y :: r) := join_two _ _ _
    rw [e, List.length_append, List.length_cons, List.length_cons, Nat.add_mul, Nat.one_mul]
    omega
theorem nW_len {n : Int} (h : n < 1000000000000000000) : (nW n).data.toList.length ≤ 18 := by
  have := dec_len (u := n.toNat) (by omega)
  simpa [nW] using this
theorem hexW_len (b : ByteArray) : (hexW b).data.toList.length ≤ 2 * b.size + 1 := by
  unfold hexW
  split
  · simp
  · have := hexOf_len b.data.toList
    rw [← s_size] at this
    simp [this]
theorem kindW_len (n : Nat) : (kindW n).data.toList.length ≤ 7 := by
  have : ∀ i : Fin 6, (kindW i.1).data.toList.length ≤ 7 := by decide +kernel
  by_cases h : n < 6
  · exact this ⟨n, h⟩
  · have e : kindW n = kindW 5 := by
      match n, h with
      | n + 6, _ => rfl
      | 0, h => omega
      | 1, h => omega
      | 2, h => omega
      | 3, h => omega
      | 4, h => omega
      | 5, h => omega
    rw [e]; exact this ⟨5, by omega⟩
theorem words_len {m : Mv} (hA : Alone m) (hk : m.key.size ≤ 1048576) (hv : m.val.size ≤ 1048576) : ∀ x ∈ wordsOf m, x.data.toList.length ≤ 3000000 := by
  have h1 := nW_len hA.b1
  have h2 := nW_len hA.b2
  have h3 := nW_len hA.b3
  have h4 := nW_len hA.b4
  have h5 := kindW_len m.kind.toNat
  have h6 := hexW_len m.key
  have h7 := hexW_len m.val
  intro x hx
  simp only [wordsOf, List.mem_cons, List.mem_append] at hx
  rcases hx with rfl | rfl | rfl | rfl | hx | hx | hx
  · omega
  · omega
  · unfold toW; split
    · simp
    · omega
  · omega
  · unfold wkOf at hx; split at hx
    · simp at hx; subst hx; omega
    · cases hx
  · unfold wvOf at hx; split at hx
    · simp at hx; subst hx; omega
    · cases hx
  · unfold weOf at hx
    split at hx
    · cases hx
    · split at hx
      · simp at hx; rcases hx with rfl | rfl
        · simp
        · omega
      · split at hx
        · simp at hx; subst hx; simp
        · split at hx
          · simp at hx; rcases hx with rfl | rfl
            · simp
            · omega
          · simp at hx; subst hx; simp
theorem words_num (m : Mv) : 4 ≤ (wordsOf m).length ∧ (wordsOf m).length ≤ 8 := by
  unfold wordsOf wkOf wvOf weOf
  simp only [List.length_cons, List.length_append]
  constructor
  · omega
  · split <;> split <;> split <;> (try split) <;> (try split) <;> (try split) <;> simp
theorem line_len {m : Mv} (hA : Alone m) (hk : m.key.size ≤ 1048576) (hv : m.val.size ≤ 1048576) : (lineT m).length ≤ 24000008 := by
  have h1 := join_len 3000000 (wordsOf m) (words_len hA hk hv)
  have h2 := (words_num m).2
  have h3 : (wordsOf m).length * (3000000 + 1) ≤ 8 * 3000001 := Nat.mul_le_mul_right _ h2
  show (joinW (wordsOf m)).length ≤ _
  omega
/-! # words in a slice of one's own -/
theorem elemStr : ElemOk Tryd.prog 69 9 1 16 := ⟨rfl, _, rfl, rfl⟩
structure Lw (w : World) (m : Mv) (w' : World) (q : Option Addr) (l c : Nat) (ws : List ByteArray) : Prop where
  se : SE En.str w' (w.heap.size + 1) 9 q l c ws
  chg : Chg none_ w w'
  box : Blk w' w.heap.size 33 (mvC m)
section
variable {w w1 : World} {m : Mv} {q : Option Addr} {l c : Nat} {ws : List ByteArray}
theorem Lw.chgN {w2 : World} (h : Lw w m w1 q l c ws) (k : Chg none_ w1 w2) : Lw w m w2 q l c ws := ⟨h.se.chgN k, h.chg.trans k, k.blk h.box (fun x => x)⟩
theorem Lw.app {w2 w3 : World} {us : List ByteArray} {cs : Array Value} (h : Lw w m w1 q l c ws) (hl : l ≤ 100) (hu : us.length ≤ 100) (k : Chg none_ w1 w2) (e : w3 = w2.alloc (.cells cs 9)) (hc : cs = (us.map Value.string).toArray) :
    ∃ q' c' w4, (Builtin.append_ #[69, 69] 69 #[.slice q l c, .slice (some ⟨w2.heap.size, 0, none⟩) us.length us.length]).run Tryd.prog w3 = .ok (.slice q' (l + us.length) c') w4 ∧ Lw w m w4 q' (l + us.length) c' (ws ++ us) := by
  have k3 := k.new' e
  have S := h.chgN k3
  have B := new_blk e
  rw [hc] at B
  obtain ⟨q', c', w4, hrun, S4, k4, _⟩ := S.se.append (t := 69) (ty := 69) (q2 := some ⟨w2.heap.size, 0, none⟩) (m := us.length) (c2 := us.length) elemStr (strs B) (by simp only [maxLen]; omega) (by omega) (Nat.succ_le_of_lt S.box.lt)
  refine ⟨q', c', w4, hrun, S4, S.chg.up k4 fun g hg => by have := (S.se.lt hg.symm).2; omega, k4.blk S.box fun hg => by have := (S.se.lt hg.symm).2; omega⟩
theorem join48 {base : Nat} (S : SE En.str w base 9 q l c ws) (hl : l ≠ 0) (hl' : l ≤ 1000) (hz : (joinW ws).length ≤ 1000000000) :
    Calls Tryd.prog 48 #[.slice q l c, .string ⟨#[32]⟩] w (Ret fun v w' => v = .string ⟨(joinW ws).toArray⟩ ∧ Chg none_ w w') := by
  have hlen := S.len
  have hle := S.le
  rcases S.ex with ⟨_, h0, _⟩ | ⟨g, off, cur, rfl, _, hbl, _⟩
  · exact absurd h0 hl
  · have hcells : ∀ (j : Nat) x, ws[j]? = some x → w.cell? ⟨g, off + j, none⟩ = some (.string x) := fun j x hx => by
      obtain ⟨a, y, ha, hy, hrd⟩ := S.re.ex (i := j) (by have := get_lt hx; omega)
      cases ha
      rw [hx] at hy; cases hy
      have := reads_one' hrd
      rw [add_mk] at this
      have h1 : j * En.str.k = j := Nat.mul_one j
      rw [h1] at this
      exact this
    have J := Tryd.strings_Join g off c ws ⟨#[32]⟩ w hcells hbl.lt (by omega) (by omega) (by show (joinW ws).length ≤ _; omega)
    rw [hlen] at J
    refine J.mono ?_
    rintro e w1 ⟨rfl, hbelow⟩
    exact ⟨_, rfl, rfl, Chg.of_below hbelow _⟩
theorem cat10 (l : List UInt8) : ((⟨l.toArray⟩ : ByteArray) ++ (⟨#[10]⟩ : ByteArray)) = ⟨(l ++ [10]).toArray⟩ := by
  apply ByteArray.ext
  show _ = (l ++ [10]).toArray
  simp
theorem lineEnd {X Y : Operand} (h : Lw w m w1 q l c ws) (hw : ws = wordsOf m) (hz : (lineT m).length ≤ 1000000000) :
    Calls Tryd.prog 48 #[.slice q l c, .string ⟨#[32]⟩] w1 fun e w2 => ∃ s, e = .returned (.string s) ∧ ∃ s' w3, (eqSem .add 9 X Y (.string s) (.string ⟨#[10]⟩)).run Tryd.prog w2 = .ok (.string s') w3 ∧ (Value.string s' = .string ⟨(lineT m ++ [10]).toArray⟩ ∧ Chg none_ w w3) := by
  subst hw
  have hlen := h.se.len
  have hn := words_num m
  refine Calls.use (join48 h.se (by omega) (by omega) hz) ?_
  rintro _ w2 ⟨rfl, k2⟩
  refine ⟨_, rfl, _, _, run_cat ?_, ?_, h.chg.trans k2⟩
  · have : (⟨(joinW (wordsOf m)).toArray⟩ : ByteArray).size = (joinW (wordsOf m)).length := by simp [ByteArray.size]
    rw [this]
    have h1 : (joinW (wordsOf m)).length ≤ 1000000000 := hz
    show _ + 1 ≤ _
    omega
  · rw [cat10]; rfl
end
theorem line32 {w : World} (hT : Tb w) {m : Mv} (hA : Alone m) (hk : m.key.size ≤ 1048576) (hv : m.val.size ≤ 1048576) :
    Calls Tryd.prog 32 #[mvV m] w (Ret fun v w' => v = .string ⟨(lineT m ++ [10]).toArray⟩ ∧ Chg none_ w w') := by
  have a1 := hA.k1
  have a2 := hA.k2
  have hz : (lineT m).length ≤ 1000000000 := Nat.le_trans (line_len hA hk hv) (by decide)
  refine f32.calls _ _ _ _ _ _ _ _ ?_
  unfold f32.wp
  refine newBox fun w1 B1 k1 s1 => ?_
  refine ⟨fun x w2 => x = toW m ∧ Chg none_ w1 w2, ?_, m.to, (B1.cell0 7).trans rfl, bc (fun g => ⟨m.to, (B1.cell0 7).trans rfl, Calls.use (itoa45 (hT.chg k1) (by simpa using g) hA.b4) ?_⟩) fun g => ⟨?_, Chg.refl _ _⟩⟩
  rotate_left
  · rintro _ w3 ⟨rfl, k3⟩
    refine ⟨_, rfl, ?_, k3⟩
    unfold toW; rw [if_neg (by simp at g; omega)]
  · unfold toW; rw [if_pos (by simp at g; omega)]
  rintro _ w2 ⟨rfl, k2⟩
  have B2 := (k2.blk B1 (fun x => x)).drew
  have k02 := (k1.trans k2).drew
  refine ⟨fun p => p.block < w2.drew.heap.size, m.life, B2.lt, (B2.cell0 5).trans rfl, m.frm, B2.lt, (B2.cell0 6).trans rfl, m.kind, B2.lt, (B2.cell 0).trans rfl, Calls.use (itoa45 (hT.chg k02) hA.l0 hA.b2) ?_⟩
  rintro _ w4 ⟨rfl, k4⟩
  refine ⟨_, rfl, k4.keeps, Calls.use (itoa45 (hT.chg (k02.trans k4)) hA.f0 hA.b3) ?_⟩
  rintro _ w5 ⟨rfl, k5⟩
  refine ⟨_, rfl, (k4.trans k5).keeps, Calls.use kinds46 ?_⟩
  rintro _ w6 ⟨rfl, B6, k6⟩
  have k46 := k4.trans (k5.trans k6)
  have hsz := k46.size
  have hsz2 := B2.lt
  refine ⟨_, _, _, rfl, k46.keeps, onPtr_mk ⟨by omega, show m.kind < ((6 : Nat) : Int) by omega, fun _ => True, kindW m.kind.toNat, trivial, ?_, fun w7 e7 => ?_⟩⟩
  · rw [Nat.mul_one, B6.cell0]
    simp [kindWs_get (i := m.kind.toNat) (by omega)]
  have L7 : Lw w m w7 (some ⟨w6.heap.size, 0, none⟩) 4 4 [nW m.life, nW m.frm, toW m, kindW m.kind.toNat] := by
    refine ⟨SE.lit (new_blk e7) (by omega) (fun n v hv => ?_) rfl (by decide) (by decide) (Nat.le_of_ble_eq_true rfl), (k02.trans k46).new' e7, (k46.new' e7).blk B2 (fun x => x)⟩
    rw [strs_flat] at hv
    simpa using hv
  refine ⟨fun q l c w8 => Lw w m w8 q l c (nW m.life :: nW m.frm :: toW m :: kindW m.kind.toNat :: wkOf m) ∧ l ≤ 5, ?_, m.kind, (L7.box.cell 0).trans rfl, Calls.use (ofKey38 m.kind) ?_⟩
  rotate_left
  · rintro _ _ ⟨b, rfl, hb, rfl⟩
    refine ⟨b, rfl, bc (fun g => ⟨m.key, (L7.box.cell0 1).trans rfl, Calls.use (hex47 m.key (by omega)) ?_⟩) fun g => ⟨?_, by omega⟩⟩
    · rintro _ w10 ⟨rfl, k10⟩
      refine ⟨_, rfl, fun w11 e11 => ?_⟩
      obtain ⟨q', c', w12, hrun, L12⟩ := L7.app (us := [hexW m.key]) (by omega) (Nat.le_of_ble_eq_true rfl) k10 e11 rfl
      refine ⟨_, _, _, _, hrun, ?_, by simp⟩
      have : wkOf m = [hexW m.key] := by unfold wkOf; rw [if_pos (by have := hb.1 g; omega)]
      rw [this]; exact L12
    · have : wkOf m = [] := by
        unfold wkOf; rw [if_neg]
        intro h3
        rw [hb.2 (by omega)] at g; cases g
      rw [this]; exact L7
  rintro q2 l2 c2 w8 ⟨L8, hl2⟩
  refine ⟨fun q l c w8 => Lw w m w8 q l c (nW m.life :: nW m.frm :: toW m :: kindW m.kind.toNat :: (wkOf m ++ wvOf m)) ∧ l ≤ 6, ?_, m.kind, (L8.box.cell 0).trans rfl, bc (fun g => ⟨m.val, (L8.box.cell0 2).trans rfl, Calls.use (hex47 m.val (by omega)) ?_⟩) fun g => ⟨?_, by omega⟩⟩
  rotate_left
  · rintro _ w14 ⟨rfl, k14⟩
    refine ⟨_, rfl, fun w15 e15 => ?_⟩
    obtain ⟨q', c', w16, hrun, L16⟩ := L8.app (us := [hexW m.val]) (by omega) (Nat.le_of_ble_eq_true rfl) k14 e15 rfl
    refine ⟨_, _, _, _, hrun, ?_, by simp; omega⟩
    have : wvOf m = [hexW m.val] := by unfold wvOf; rw [if_pos (by simpa using g)]
    rw [this]; exact L16
  · have : wvOf m = [] := by unfold wvOf; rw [if_neg (by simpa using g)]
    rw [this, List.append_nil]; exact L8
  rintro q4 l4 c4 w13 ⟨L13, hl4⟩
  have hw : ∀ we, weOf m = we → (nW m.life :: nW m.frm :: toW m :: kindW m.kind.toNat :: (wkOf m ++ wvOf m)) ++ we = wordsOf m := fun we h => by
    unfold wordsOf; rw [h]; simp
  refine ⟨m.to, (L13.box.cell0 7).trans rfl, bc (fun g => lineEnd L13 ?_ hz) fun g => ⟨m.err, (L13.box.cell0 3).trans rfl, bc (fun g1 => ⟨m.err, (L13.box.cell0 3).trans rfl, Calls.use (itoa45 (hT.chg L13.chg) hA.er hA.b1) ?_⟩) fun g1 => ⟨m.kind, (L13.box.cell 0).trans rfl, bc (fun g2 w24 e24 => ?_) fun g2 => ⟨m.hit, (L13.box.cell0 4).trans rfl, bc (fun g3 => ⟨m.val, (L13.box.cell0 2).trans rfl, Calls.use (hex47 m.val (by omega)) ?_⟩) fun g3 w33 e33 => ?_⟩⟩⟩⟩
  · rw [← hw [] (by unfold weOf; rw [if_pos (by simpa using g)]), List.append_nil]
  · rintro _ w19 ⟨rfl, k19⟩
    refine ⟨_, rfl, fun w20 e20 => ?_⟩
    obtain ⟨q', c', w21, hrun, L21⟩ := L13.app (us := [errW, nW m.err]) (by omega) (Nat.le_of_ble_eq_true rfl) k19 e20 rfl
    refine ⟨_, _, _, _, hrun, lineEnd L21 (hw _ ?_) hz⟩
    unfold weOf; rw [if_neg (by simpa using g), if_pos (by simpa using g1)]
  · obtain ⟨q', c', w25, hrun, L25⟩ := L13.app (us := [okW]) (by omega) (Nat.le_of_ble_eq_true rfl) (Chg.refl _ _) e24 rfl
    refine ⟨_, _, _, _, hrun, lineEnd L25 (hw _ ?_) hz⟩
    unfold weOf; rw [if_neg (by simpa using g), if_neg (by simpa using g1), if_pos (by simpa using g2)]
  · rintro _ w28 ⟨rfl, k28⟩
    refine ⟨_, rfl, fun w29 e29 => ?_⟩
    obtain ⟨q', c', w30, hrun, L30⟩ := L13.app (us := [hitW, hexW m.val]) (by omega) (Nat.le_of_ble_eq_true rfl) k28 e29 rfl
    refine ⟨_, _, _, _, hrun, lineEnd L30 (hw _ ?_) hz⟩
    unfold weOf; rw [if_neg (by simpa using g), if_neg (by simpa using g1), if_neg (by simpa using g2), if_pos g3]
  · obtain ⟨q', c', w34, hrun, L34⟩ := L13.app (us := [missW]) (by omega) (Nat.le_of_ble_eq_true rfl) (Chg.refl _ _) e33 rfl
    refine ⟨_, _, _, _, hrun, lineEnd L34 (hw _ ?_) hz⟩
    unfold weOf; rw [if_neg (by simpa using g), if_neg (by simpa using g1), if_neg (by simpa using g2), if_neg (by rw [g3]; simp)]
end Go.Proofs.YtjfafkgjcgbgfaaDoor
