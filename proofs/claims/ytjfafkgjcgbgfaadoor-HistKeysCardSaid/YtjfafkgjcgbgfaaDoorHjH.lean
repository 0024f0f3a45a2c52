import Derived.Test.YtjfafkgjcgbgfaaDoorHjG
set_option maxRecDepth 20000
namespace Go.Proofs.YtjfafkgjcgbgfaaDoor
open Go Go.Vc Go.RowKit
theorem ba_get (xs : List UInt8) (i : Nat) : (⟨xs.toArray⟩ : ByteArray)[i]? = xs[i]? := by
  by_cases h : i < xs.length
  · rw [List.getElem?_eq_getElem h]
    exact (getElem?_pos _ i (by simpa [ByteArray.size] using h)).trans (by rfl)
  · rw [List.getElem?_eq_none (by omega)]
    exact getElem?_neg _ i (by simpa [ByteArray.size] using h)
def IsHex (s : ByteArray) (bs : List UInt8) : Prop := (s = ⟨#[45]⟩ ∧ bs = []) ∨ (bs ≠ [] ∧ s = ⟨(hexOf bs).toArray⟩)
theorem hx_ne (b : UInt8) : hx (b.toNat / 16) ≠ 45 := by
  have h : ∀ n : Fin 16, hx n.1 ≠ 45 := by decide +kernel
  have hb := b.toNat_lt
  exact h ⟨b.toNat / 16, by omega⟩
theorem bytes57 {w : World} {r wb : Nat} {s : ByteArray} {bs : List UInt8} {ws : List ByteArray} (h : Rd w r wb (s :: ws)) (hs : IsHex s bs) (hl : bs.length < 1000000000) :
    Calls Tryd.prog 57 #[.pointer (some ⟨r, 0, none⟩)] w (Ret fun v w' => v = .string ⟨bs.toArray⟩ ∧ Rd w' r wb ws ∧ Chg (fun k => k = r) w w') := by
  refine f57.calls _ ?_
  unfold f57.wp
  refine Calls.use (word55 h) ?_
  rintro _ w1 ⟨rfl, h1, k1⟩
  refine ⟨s, rfl, ?_⟩
  rcases hs with ⟨rfl, rfl⟩ | ⟨h0, rfl⟩
  · exact bcT (by simp) ⟨rfl, h1, k1⟩
  cases bs with
  | nil => exact absurd rfl h0
  | cons b0 bs0 =>
  have hlen := hexOf_len (b0 :: bs0)
  refine bcF ?_ (bcF ?_ ⟨by decide, bcF ?_ ?_⟩)
  · rw [ByteArray.toList_eq, ByteArray.toList_eq]
    simp [hexOf]
  · rw [ByteArray.toList_eq, ByteArray.toList_eq]
    simp [hexOf]
  · have : ((⟨(hexOf (b0 :: bs0)).toArray⟩ : ByteArray).size : Int) = 2 * ((b0 :: bs0).length : Int) := by simp only [ByteArray.size, List.size_toArray, hlen]; omega
    rw [this]; simp
  refine ⟨fun q l c x w' => ∃ k : Nat, x = ((2 * k : Nat) : Int) ∧ k ≤ (b0 :: bs0).length ∧ Chg none_ w1 w' ∧ SE En.u8 w' w1.heap.size 5 q l c ((b0 :: bs0).take k), fun _ _ _ x _ => 2 * (b0 :: bs0).length - x.toNat, ⟨0, rfl, by omega, Chg.refl _ _, SE.nil _ _ _ _⟩, ?_⟩
  rintro q l c _ w4 ⟨k, rfl, hk, k4, S4⟩
  have hsz : (⟨(hexOf (b0 :: bs0)).toArray⟩ : ByteArray).size = 2 * (b0 :: bs0).length := hlen
  rw [hsz]
  refine bc (fun g => ?_) fun g => ?_
  · have g1 : k < (b0 :: bs0).length := by simp at g; simp; omega
    obtain ⟨b, hb⟩ := get_ex g1
    obtain ⟨e1, e2⟩ := hexOf_get hb
    have hbl := b.toNat_lt
    have hw1 : IntKind.wrap .i64 (((2 * k : Nat) : Int) + 1) = ((2 * k + 1 : Nat) : Int) := wrapN (by omega)
    have hw2 : IntKind.wrap .i64 (((2 * k : Nat) : Int) + 2) = ((2 * (k + 1) : Nat) : Int) := by rw [wrapS (by omega) (by omega)]; omega
    have hj := hx_join ⟨b.toNat, hbl⟩
    have i1 := hx_index ⟨b.toNat / 16, by omega⟩
    have i2 := hx_index ⟨b.toNat % 16, by omega⟩
    have hln := S4.len
    rw [List.length_take] at hln
    rw [hw1, hw2]
    refine ⟨fun _ => True, hx (b.toNat / 16), by omega, by rw [ba_get]; exact e1, hx (b.toNat % 16), by omega, by rw [ba_get]; exact e2, ?_⟩
    refine (Tryd.strings_IndexByte _ _ _).mono ?_
    rintro _ _ ⟨rfl, rfl⟩
    refine ⟨_, rfl, fun _ _ => rfl, (Tryd.strings_IndexByte _ _ _).mono ?_⟩
    rintro _ _ ⟨rfl, rfl⟩
    rw [u8back, u8back]
    simp only at i1 i2 hj ⊢
    refine ⟨_, rfl, ?_⟩
    show bcase (decide (Lib.indexByte [48, 49, 50, 51, 52, 53, 54, 55, 56, 57, 97, 98, 99, 100, 101, 102] (hx (b.toNat / 16)) < 0)) _ _
    rw [i1]
    refine bcF (by simp; omega) ?_
    show bcase (decide (Lib.indexByte [48, 49, 50, 51, 52, 53, 54, 55, 56, 57, 97, 98, 99, 100, 101, 102] (hx (b.toNat % 16)) < 0)) _ _
    rw [i2]
    refine bcF (by simp; omega) ⟨by omega, ?_⟩
    rw [hj]
    refine newBox fun w11 B k11 _ => ?_
    have k411 : Chg none_ w1 w11 := k4.drew.trans k11
    obtain ⟨q2, c2, w12, hrun, S12, k12, _⟩ := ((S4.drew).chgN k11).append1 (t := 89) (ty := 89) (x := b) elemU8 B (by simp only [maxLen]; omega) (by omega) k411.size
    refine ⟨_, _, _, w12, hrun, ⟨k + 1, rfl, by omega, k411.up k12 fun g hg => (S4.lt hg.symm).2, ?_⟩, by simp only [Int.toNat_natCast]; omega⟩
    rw [List.take_add_one, hb]; exact S12
  · have : k = (b0 :: bs0).length := by simp at g; simp at hk ⊢; omega
    subst this
    rw [List.take_length] at S4
    exact ⟨_, w4, conv89 S4.re, rfl, h1.chgN k4, k1.trans (k4.of_none _)⟩
/-! # the words of calls -/
def kindW : Nat → ByteArray
  | 0 => ⟨#[]⟩ | 1 => ⟨#[103, 101, 116]⟩ | 2 => ⟨#[112, 117, 116]⟩ | 3 => ⟨#[100, 101, 108, 101, 116, 101]⟩ | 4 => ⟨#[102, 108, 117, 115, 104]⟩ | _ => ⟨#[114, 101, 99, 108, 97, 105, 109]⟩
def kindWs : List ByteArray := [kindW 0, kindW 1, kindW 2, kindW 3, kindW 4, kindW 5]
theorem kinds46 {w : World} : Calls Tryd.prog 46 #[] w (Ret fun v w' => v = .slice (some ⟨w.heap.size, 0, none⟩) 6 6 ∧ Blk w' w.heap.size 9 (kindWs.map Value.string).toArray ∧ Chg none_ w w') := by
  refine f46.calls ?_
  unfold f46.wp
  exact newBox fun w1 B k1 _ => ⟨rfl, B, k1⟩
theorem kind_ne : ∀ i j : Fin 6, i ≠ j → ((kindW i.1).toList == (kindW j.1).toList) = false := by
  have : ∀ i j : Fin 6, i ≠ j → ((kindW i.1).data.toList == (kindW j.1).data.toList) = false := by decide +kernel
  intro i j h
  rw [ByteArray.toList_eq, ByteArray.toList_eq]; exact this i j h
theorem kindWs_get {i : Nat} (h : i < 6) : kindWs[i]? = some (kindW i) := by
  have : ∀ i : Fin 6, kindWs[i.1]? = some (kindW i.1) := fun i => by
    rcases i with ⟨_ | _ | _ | _ | _ | _ | _, h⟩ <;> first | rfl | omega
  exact this ⟨i, h⟩
theorem kind56 {w : World} {r wb : Nat} {kd : Nat} {ws : List ByteArray} (h : Rd w r wb (kindW kd :: ws)) (h1 : 1 ≤ kd) (h5 : kd ≤ 5) :
    Calls Tryd.prog 56 #[.pointer (some ⟨r, 0, none⟩)] w (Ret fun v w' => v = .int .i64 (kd : Int) ∧ Rd w' r wb ws ∧ Chg (fun k => k = r) w w') := by
  refine f56.calls _ ?_
  unfold f56.wp
  refine Calls.use (word55 h) ?_
  rintro _ w1 ⟨rfl, hr, k1⟩
  refine ⟨_, rfl, Calls.use kinds46 ?_⟩
  rintro _ w2 ⟨rfl, B2, k2⟩
  refine ⟨_, 6, 6, rfl, fun x w' => w' = w2 ∧ ∃ k : Nat, x = (k : Int) ∧ k ≤ kd, fun x _ => 6 - x.toNat, ⟨rfl, 0, rfl, by omega⟩, ?_⟩
  rintro _ _ ⟨rfl, k, rfl, hk⟩
  refine bc (fun g => ?_) fun g => by simp at g; omega
  have hw := wrapN (n := k) (by omega)
  rw [hw]
  refine onPtr_mk ⟨by omega, by omega, kindW k, ?_, bc (fun g1 => ?_) fun g1 => ⟨⟨rfl, k + 1, rfl, ?_⟩, ?_⟩⟩
  · rw [Int.toNat_natCast, Nat.mul_one, B2.cell0]
    simp [kindWs_get (show k < 6 by omega)]
  · by_cases e : k = kd
    · subst e
      exact bcT (by simp) ⟨rfl, hr.chgN k2, k1.trans (k2.of_none _)⟩
    · refine bcF (kind_ne ⟨k, by omega⟩ ⟨kd, by omega⟩ (by simp; exact e)) ⟨⟨rfl, k + 1, rfl, by omega⟩, by simp only [Int.toNat_natCast]; omega⟩
  · simp at g1; omega
  · simp only [Int.toNat_natCast]; omega
end Go.Proofs.YtjfafkgjcgbgfaaDoor
