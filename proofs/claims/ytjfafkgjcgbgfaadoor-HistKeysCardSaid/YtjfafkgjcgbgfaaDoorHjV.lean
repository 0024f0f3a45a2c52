import Derived.Test.YtjfafkgjcgbgfaaDoorHjU
set_option maxRecDepth 20000
namespace Go.Proofs.YtjfafkgjcgbgfaaDoor
open Go Go.Vc Go.RowKit
/-! # Print of the program -/
theorem textT_next {ms : List Mv} {i : Nat} {m : Mv} (h : ms[i]? = some m) : textT (ms.take (i + 1)) = textT (ms.take i) ++ (lineT m ++ [10]) := by
  unfold textT
  rw [List.take_add_one, h, List.flatMap_append]
  simp
theorem textT_take (ms : List Mv) (i : Nat) : (textT (ms.take i)).length ≤ (textT ms).length := by
  have : textT ms = textT (ms.take i) ++ textT (ms.drop i) := by
    conv => lhs; rw [← List.take_append_drop i ms]
    unfold textT
    rw [List.flatMap_append]
  rw [this, List.length_append]; omega
def prR (ms : List Mv) (s : ByteArray) (e : Int) : Prop :=
  (∃ a, Chk ms a e ∧ e ≠ 0 ∧ s = e0) ∨ (Chk ms 0 0 ∧ (textT ms).length ≤ 65536 ∧ s = ⟨(textT ms).toArray⟩ ∧ e = 0) ∨ (Chk ms 0 0 ∧ 65536 < (textT ms).length ∧ s = e0 ∧ e = 3)
theorem prR.both {ms : List Mv} {s s' : ByteArray} {e e' : Int} (h : prR ms s e) (k : prR ms s' e') : s = s' ∧ e = e' := by
  rcases h with ⟨a, h1, h2, rfl⟩ | ⟨h1, h2, rfl, rfl⟩ | ⟨h1, h2, rfl, rfl⟩ <;> rcases k with ⟨b, k1, k2, rfl⟩ | ⟨k1, k2, rfl, rfl⟩ | ⟨k1, k2, rfl, rfl⟩
  · exact ⟨rfl, (h1.eq k1).2⟩
  · exact absurd (h1.eq k1).2 h2
  · exact absurd (h1.eq k1).2 h2
  · exact absurd (h1.eq k1).2.symm k2
  · exact ⟨rfl, rfl⟩
  · omega
  · exact absurd (h1.eq k1).2.symm k2
  · omega
  · exact ⟨rfl, rfl⟩
theorem ba_size (l : List UInt8) : (⟨l.toArray⟩ : ByteArray).size = l.length := by simp [ByteArray.size]
theorem strC (l : List UInt8) : Lib.strCells ⟨l.toArray⟩ = Lib.byteCells l := rfl
def Small (ms : List Mv) : Prop := ∀ m ∈ ms, m.key.size ≤ 1048576 ∧ m.val.size ≤ 1048576
section
variable {w : World} {q : Option Addr} {l c : Nat} {ms : List Mv}
theorem print20 (hT : Tb w) (H : RE En.mv w q l ms) (hs : Small ms) : Calls Tryd.prog 20 #[.slice q l c] w (Ret fun v w' => ∃ s e, v = .tuple #[.string s, .int .i64 e] ∧ prR ms s e ∧ Chg none_ w w') := by
  have hlen := H.len
  refine f20.calls _ _ _ ?_
  unfold f20.wp
  refine Calls.use (check12 H) ?_
  rintro _ w1 ⟨a, b, rfl, hck, k1⟩
  refine ⟨a, b, rfl, bc (fun g => ⟨_, _, rfl, .inl ⟨a, hck, by simpa using g, rfl⟩, k1⟩) fun g w2 e2 => ?_⟩
  have hb : b = 0 := by simpa using g
  subst hb
  have ha : a = 0 := by cases hck; rfl
  subst ha
  have hal := hck.alive
  have B2 := Bd.new e2
  have k2 := k1.new' e2
  refine ⟨fun x w3 => ∃ i : Nat, x = (i : Int) ∧ i ≤ l ∧ Bd w1.heap.size (textT (ms.take i)) w3 ∧ (textT (ms.take i)).length ≤ 65536 ∧ Chg none_ w w3, fun x _ => l - x.toNat, ⟨0, rfl, by omega, B2, by simp [textT], k2⟩, ?_⟩
  rintro _ w3 ⟨i, rfl, hi, B3, hl3, k3⟩
  refine bc (fun g => ?_) fun g => ?_
  · have g : i < l := by simp at g; omega
    obtain ⟨p, m, hp, hm, hr⟩ := (H.chg k3).ex g
    subst hp
    have hmem := List.mem_of_getElem? hm
    have hA := (oks_pair.1 hal.2).1 m hmem
    obtain ⟨hz1, hz2⟩ := hs m hmem
    have hll := line_len hA hz1 hz2
    refine onPtr_mk ⟨by omega, by omega, m.kind, m.key, m.val, m.err, m.hit, m.life, m.frm, m.to, hr, boxed rfl rfl fun w5 B5 k5 s5 => ⟨_, _, _, _, _, _, _, _, B5.reads0, Calls.use (line32 (hT.chg (k3.trans k5)) hA hz1 hz2) ?_⟩⟩
    rintro _ w6 ⟨rfl, k6⟩
    have k56 := k5.trans k6
    have B6 := B3.chg k56
    have hsz : (⟨(lineT m ++ [10]).toArray⟩ : ByteArray).size = (lineT m).length + 1 := by rw [ba_size, List.length_append]; rfl
    have W := writeStr w1.heap.size w1.heap.size (Lib.byteCells (textT (ms.take i))) ⟨(lineT m ++ [10]).toArray⟩ w6 B6 (by rw [byteCells_len, hsz]; omega) (Nat.le_of_lt B6.lt)
    refine ⟨_, rfl, W.mono ?_⟩
    rintro _ w7 ⟨rfl, hB7, hbl, hok⟩
    have kp : Kp w1.heap.size w3 w7 := (Kp.of k56 (Nat.le_of_lt B3.lt)).trans ⟨hbl, hok⟩
    have e7 : Lib.byteCells (textT (ms.take i)) ++ Lib.strCells ⟨(lineT m ++ [10]).toArray⟩ = Lib.byteCells (textT (ms.take (i + 1))) := by
      rw [textT_next hm, byteCells_app, strC]
    rw [e7] at hB7
    have B7 : Bd w1.heap.size (textT (ms.take (i + 1))) w7 := .inr hB7
    have k7 := kp.chg k3 k1.size
    refine ⟨_, _, rfl, (Tryd.Builder_Len_f _ _ _ w7 B7).mono ?_⟩
    rintro _ _ ⟨rfl, rfl⟩
    rw [byteCells_len]
    refine ⟨_, rfl, bc (fun g1 => ⟨_, _, rfl, .inr (.inr ⟨hck, ?_, rfl, rfl⟩), k7⟩) fun g1 => ?_⟩
    · have := textT_take ms (i + 1)
      simp at g1; omega
    · rw [wrapN (by omega)]
      exact ⟨⟨i + 1, rfl, by omega, B7, by simp at g1; omega, k7⟩, by simp only [Int.toNat_natCast]; omega⟩
  · have hie : i = l := by simp at g; omega
    subst hie
    rw [List.take_of_length_le (by omega)] at B3 hl3
    refine (Tryd.Builder_String_any_k _ _ _ w3 B3 (Nat.le_of_lt B3.lt)).mono ?_
    rintro e w9 ⟨rfl, _, hbl, hok⟩
    exact ⟨_, rfl, _, _, rfl, .inr (.inl ⟨hck, hl3, rfl, rfl⟩), Kp.chg ⟨hbl, hok⟩ k3 k1.size⟩
end
/-! # the reference's numbers, digits and words -/
theorem dgv : ∀ d : Fin 10, IntKind.wrap .u8 (IntKind.wrap .i64 (48 + ((d.1 : Nat) : Int))) = ((UInt8.ofNat (48 + d.1)).toNat : Int) := by decide +kernel
theorem cat {P : Program} {t : TypeId} {X Y : Operand} {w : World} {a b : ByteArray} (ha : a.size ≤ 1000000000) (hb : b.size ≤ 1000000000) :
    ∃ s, (eqSem .add t X Y (.string a) (.string b)).run P w = .ok (.string s) w ∧ s.data.toList = a.data.toList ++ b.data.toList ∧ s.size = a.size + b.size :=
  ⟨_, run_cat (by omega), by simp, by simp⟩
theorem ba_of {s : ByteArray} {l : List UInt8} (h : s.data.toList = l) : s = ⟨l.toArray⟩ := by rw [← h, ba_back]
theorem lit_u8 {w w1 : World} {c : UInt8} {v : Value} (e : w1 = w.alloc (.cells #[v] 5)) (h : v = .int .u8 ((c.toNat : Nat) : Int)) : RE En.u8 w1 (some ⟨w.heap.size, 0, none⟩) 1 [c] := by
  subst h
  exact RE.of_flat rfl (new_blk e).reads0
theorem number49 {w : World} {z : Int} (h0 : 0 ≤ z) (h1 : z < 1000000000000000000) : Calls Tryd.prog 49 #[.int .i64 z] w (Ret fun v w' => v = .string (nW z) ∧ Chg none_ w w') := by
  refine f49.calls _ ?_
  unfold f49.wp
  have hdl := dec_len (u := z.toNat) (by omega)
  refine ⟨fun x s w' => ∃ n : Nat, x = (n : Int) ∧ n ≤ z.toNat ∧ Lib.decDigits n ++ s.data.toList = Lib.decDigits z.toNat ∧ Chg none_ w w', fun x _ _ => x.toNat, ⟨z.toNat, by omega, Nat.le_refl _, by simp, Chg.refl _ _⟩, ?_⟩
  rintro _ s w1 ⟨n, rfl, hn, hd, k1⟩
  have hsl : s.size ≤ 18 := by
    have := congrArg List.length hd
    rw [List.length_append, ← s_size] at this
    omega
  refine bc (fun g => ⟨by decide, fun w2 e2 => ?_⟩) fun g w5 e5 => ?_
  · have g : 9 < n := by simp at g; omega
    have ht : Int.tmod (n : Int) 10 = ((n % 10 : Nat) : Int) := by rw [Int.tmod_eq_emod_of_nonneg (by omega)]; omega
    have hdv : Int.tdiv (n : Int) 10 = ((n / 10 : Nat) : Int) := by rw [Int.tdiv_eq_ediv_of_nonneg (by omega)]; omega
    rw [ht] at e2
    have L := conv89 (c := 1) (lit_u8 (c := UInt8.ofNat (48 + n % 10)) e2 (by rw [dgv ⟨n % 10, by omega⟩]))
    have k2 := k1.new' e2
    obtain ⟨s2, hr, hs2, hz2⟩ := cat (P := Tryd.prog) (t := 9) (X := .tmp 11) (Y := .tmp 12) (w := w2) (a := ⟨[UInt8.ofNat (48 + n % 10)].toArray⟩) (b := s) (by simp [ByteArray.size]) (by omega)
    rw [hdv, wrapS (by omega) (by omega)]
    refine ⟨_, _, L, s2, _, hr, by decide, ⟨n / 10, rfl, by omega, ?_, k2⟩, by simp only [Int.toNat_natCast]; omega⟩
    rw [hs2, ← hd, Lib.decDigits.eq_def n, dif_neg (by omega)]
    simp
  · have g : n < 10 := by simp at g; omega
    have L := conv89 (c := 1) (lit_u8 (c := UInt8.ofNat (48 + n)) e5 (by rw [dgv ⟨n, g⟩]))
    have k5 := k1.new' e5
    obtain ⟨s2, hr, hs2, hz2⟩ := cat (P := Tryd.prog) (t := 9) (X := .tmp 20) (Y := .tmp 21) (w := w5) (a := ⟨[UInt8.ofNat (48 + n)].toArray⟩) (b := s) (by simp [ByteArray.size]) (by omega)
    refine ⟨_, _, L, s2, _, hr, ?_, k5⟩
    have : s2.data.toList = Lib.decDigits z.toNat := by
      rw [hs2, ← hd, Lib.decDigits.eq_def n, dif_pos g]
    rw [ba_of this]; rfl
theorem kindName50 {w : World} {z : Int} (h0 : 0 ≤ z) (h1 : z ≤ 5) : Calls Tryd.prog 50 #[.int .i64 z] w (Ret fun v w' => v = .string (kindW z.toNat) ∧ Chg none_ w w') := by
  refine f50.calls _ ?_
  unfold f50.wp
  refine newBox fun w1 B k1 _ => ⟨h0, by omega, kindW z.toNat, ?_, rfl, k1⟩
  rw [Nat.mul_one, B.cell0]
  have : ∀ i : Fin 6, (kindWs.map Value.string)[i.1]? = some (.string (kindW i.1)) := fun i => by rw [List.getElem?_map, kindWs_get i.2]; rfl
  exact (List.getElem?_toArray ..).trans (this ⟨z.toNat, by omega⟩)
theorem ref_hi : ∀ n : Fin 256, 0 ≤ IntKind.wrap .u8 (Int.tdiv ((n.1 : Nat) : Int) 16) ∧ (⟨#[48, 49, 50, 51, 52, 53, 54, 55, 56, 57, 97, 98, 99, 100, 101, 102]⟩ : ByteArray)[(IntKind.wrap .u8 (Int.tdiv ((n.1 : Nat) : Int) 16)).toNat]? = some (hx (n.1 / 16)) := by decide +kernel
theorem ref_lo : ∀ n : Fin 256, 0 ≤ Int.tmod ((n.1 : Nat) : Int) 16 ∧ (⟨#[48, 49, 50, 51, 52, 53, 54, 55, 56, 57, 97, 98, 99, 100, 101, 102]⟩ : ByteArray)[(Int.tmod ((n.1 : Nat) : Int) 16).toNat]? = some (hx (n.1 % 16)) := by decide +kernel
theorem hex51 (s : ByteArray) (hz : s.size ≤ 1000000000) {w : World} : Calls Tryd.prog 51 #[.string s] w (Ret fun v w' => v = .string (hexW s) ∧ Chg none_ w w') := by
  refine f51.calls _ ?_
  unfold f51.wp
  have hsz := s_size s
  refine bc (fun h => ⟨by unfold hexW; rw [if_pos ((s_nil s).1 h)], Chg.refl _ _⟩) fun h => ?_
  have hne : ¬ s.data.toList = [] := fun g => by rw [(s_nil s).2 g] at h; cases h
  refine ⟨fun q l c x w1 => ∃ i : Nat, x = (i : Int) ∧ i ≤ s.size ∧ SE En.u8 w1 w.heap.size 5 q l c (hexOf (s.data.toList.take i)) ∧ Chg none_ w w1, fun _ _ _ x _ => s.size - x.toNat, ⟨0, rfl, by omega, SE.nil _ _ _ _, Chg.refl _ _⟩, ?_⟩
  rintro q l c _ w1 ⟨i, rfl, hi, S1, k1⟩
  have hl1 := S1.len
  rw [hexOf_len, List.length_take] at hl1
  refine bc (fun g => ?_) fun g => ?_
  · have g : i < s.size := by simp at g; omega
    obtain ⟨u, hu⟩ := get_ex (l := s.data.toList) (i := i) (by omega)
    have hut := u.toNat_lt
    have hg : s[((i : Nat) : Int).toNat]? = some u := by rw [Int.toNat_natCast, s_get, hu]
    obtain ⟨p1, p2⟩ := ref_hi ⟨u.toNat, hut⟩
    obtain ⟨p3, p4⟩ := ref_lo ⟨u.toNat, hut⟩
    refine ⟨fun p => p.block < w1.drew.heap.size, u, by omega, hg, by decide, hx (u.toNat / 16), p1, p2, u, by omega, hg, by decide, hx (u.toNat % 16), p3, p4, fun w2 e2 => ⟨((Chg.refl none_ w1.drew).new' e2).keeps, ?_⟩⟩
    have k2 := (Chg.refl none_ w1).drew.new' e2
    have L : RE En.u8 w2 (some ⟨w1.drew.heap.size, 0, none⟩) 2 [hx (u.toNat / 16), hx (u.toNat % 16)] := RE.of_flat rfl (new_blk e2).reads0
    obtain ⟨q', c', w3, hrun, S3, k3, _⟩ := (S1.chgN k2).append (t := 89) (ty := 89) (c2 := 2) elemU8 L (by simp only [maxLen]; omega) (by omega) ((k1.trans k2).size)
    rw [wrapN (by omega)]
    refine ⟨q', _, c', w3, hrun, ⟨i + 1, rfl, by omega, ?_, (k1.trans k2).up k3 fun k hk => ((S1.chgN k2).lt hk.symm).2⟩, by simp only [Int.toNat_natCast]; omega⟩
    rw [hexOf_next hu, List.append_assoc]; exact S3
  · have hie : i = s.size := by simp at g; omega
    subst hie
    rw [List.take_of_length_le (by omega)] at S1
    refine ⟨_, _, conv89 S1.re, ?_, k1⟩
    unfold hexW; rw [if_neg hne]
end Go.Proofs.YtjfafkgjcgbgfaaDoor
