import Derived.Test.YtdlbmmodlkmofaaGreatDoorPzQ
set_option maxRecDepth 20000
namespace Go.Proofs.YtdlbmmodlkmofaaGreatDoor
open Go Go.Vc Go.RowKit
/-! # the reference's numbers and words -/
def En.u8 : En UInt8 := ⟨1, fun b => [.int .u8 (b.toNat : Int)], fun _ => rfl, fun _ v hv => by simp at hv; subst hv; rfl, by decide⟩
theorem ba_back (s : ByteArray) : (⟨s.data.toList.toArray⟩ : ByteArray) = s := by cases s; simp
theorem s_size (s : ByteArray) : s.size = s.data.toList.length := by rw [Array.length_toList]; rfl
theorem conv53 {w : World} {q : Option Addr} {l c : Nat} {bs : List UInt8} (h : RE En.u8 w q l bs) : (convert 53 9 (.slice q l c)).run Tryz.prog w = .ok (.string ⟨bs.toArray⟩) w := by
  have hl := h.len
  cases bs with
  | nil =>
    simp at hl; subst hl
    cases q with
    | none =>
      rw [run_convert_bytes_string w 53 9 5 none 0 c rfl rfl rfl]
      simp [Conv.bytesToString]
      rfl
    | some a => exact run_convert_bytes_back w 53 9 5 a c [] rfl rfl rfl (fun j hj => by simp at hj)
  | cons b bs =>
    subst hl
    obtain ⟨a, b', rfl, _, _⟩ := h.ex (i := 0) (by simp)
    refine run_convert_bytes_back w 53 9 5 a c (b :: bs) rfl rfl rfl fun j hj => ?_
    obtain ⟨a', ha, hr⟩ := h.get j _ (List.getElem?_eq_getElem hj)
    cases ha
    have := hr 0 _ rfl
    rw [add_zero'] at this
    simpa [En.u8] using this
theorem dgv : ∀ d : Fin 10, IntKind.wrap .u8 (IntKind.wrap .i64 (48 + ((d.1 : Nat) : Int))) = ((UInt8.ofNat (48 + d.1)).toNat : Int) := by decide +kernel
theorem cat {P : Program} {t : TypeId} {X Y : Operand} {w : World} {a b : ByteArray} (ha : a.size ≤ 1000000000) (hb : b.size ≤ 1000000000) :
    ∃ s, (eqSem .add t X Y (.string a) (.string b)).run P w = .ok (.string s) w ∧ s.data.toList = a.data.toList ++ b.data.toList ∧ s.size = a.size + b.size :=
  ⟨_, run_cat (by omega), by simp, by simp⟩
theorem ba_of {s : ByteArray} {l : List UInt8} (h : s.data.toList = l) : s = ⟨l.toArray⟩ := by rw [← h, ba_back]
theorem lit_u8 {w w1 : World} {c : UInt8} {v : Value} (e : w1 = w.alloc (.cells #[v] 5)) (h : v = .int .u8 ((c.toNat : Nat) : Int)) : RE En.u8 w1 (some ⟨w.heap.size, 0, none⟩) 1 [c] := by
  subst h
  exact RE.of_flat rfl (new_blk e).reads0
theorem number23 {w : World} {z : Int} (h0 : 0 ≤ z) (h1 : z < 1000000000000000000) : Calls Tryz.prog 23 #[.int .i64 z] w (Ret fun v w' => v = .string (nW z) ∧ Chg none_ w w') := by
  refine f23.calls _ ?_
  unfold f23.wp
  have hdl := dec_len (u := z.toNat) (by omega)
  refine ⟨fun x s w' => ∃ n : Nat, x = (n : Int) ∧ n ≤ z.toNat ∧ Lib.decDigits n ++ s.data.toList = Lib.decDigits z.toNat ∧ Chg none_ w w', fun x _ _ => x.toNat, ⟨z.toNat, by omega, Nat.le_refl _, by simp, Chg.refl _ _⟩, ?_⟩
  rintro _ s w1 ⟨n, rfl, hn, hd, k1⟩
  have hsl : s.size ≤ 18 := by
    have := congrArg List.length hd
    rw [List.length_append, ← s_size] at this
    omega
  refine bc (fun g => ⟨by decide, fun w2 e2 => ?_⟩) fun g w5 e5 => ?_
  · have g : 9 < n := by simp at g; omega
    have ht : Int.tmod (n : Int) 10 = ((n % 10 : Nat) : Int) := by rw [Int.tmod_eq_emod_of_nonneg (by omega)]; omega
    have hdv : Int.tdiv (n : Int) 10 = ((n / 10 : Nat) : Int) := by rw [Int.tdiv_eq_ediv_of_nonneg (by omega)]; omega
    rw [ht] at e2
    have L := conv53 (c := 1) (lit_u8 (c := UInt8.ofNat (48 + n % 10)) e2 (by rw [dgv ⟨n % 10, by omega⟩]))
    have k2 := k1.new' e2
    obtain ⟨s2, hr, hs2, hz2⟩ := cat (P := Tryz.prog) (t := 9) (X := .tmp 11) (Y := .tmp 12) (w := w2) (a := ⟨[UInt8.ofNat (48 + n % 10)].toArray⟩) (b := s) (by simp [ByteArray.size]) (by omega)
    rw [hdv, wrapS (by omega) (by omega)]
    refine ⟨_, _, L, s2, _, hr, by decide, ⟨n / 10, rfl, by omega, ?_, k2⟩, by simp only [Int.toNat_natCast]; omega⟩
    rw [hs2, ← hd, Lib.decDigits.eq_def n, dif_neg (by omega)]
    simp
  · have g : n < 10 := by simp at g; omega
    have L := conv53 (c := 1) (lit_u8 (c := UInt8.ofNat (48 + n)) e5 (by rw [dgv ⟨n, g⟩]))
    have k5 := k1.new' e5
    obtain ⟨s2, hr, hs2, hz2⟩ := cat (P := Tryz.prog) (t := 9) (X := .tmp 20) (Y := .tmp 21) (w := w5) (a := ⟨[UInt8.ofNat (48 + n)].toArray⟩) (b := s) (by simp [ByteArray.size]) (by omega)
    refine ⟨_, _, L, s2, _, hr, ?_, k5⟩
    have : s2.data.toList = Lib.decDigits z.toNat := by
      rw [hs2, ← hd, Lib.decDigits.eq_def n, dif_pos g]
    rw [ba_of this]; rfl
theorem catK {P : Program} {t : TypeId} {X Y : Operand} {w : World} {a b : ByteArray} {C : ByteArray → World → Prop} (ha : a.size ≤ 1000000000) (hb : b.size ≤ 1000000000) (h : ∀ s : ByteArray, s.data.toList = a.data.toList ++ b.data.toList → s.size = a.size + b.size → C s w) :
    ∃ s w', (eqSem .add t X Y (.string a) (.string b)).run P w = .ok (.string s) w' ∧ C s w' := by
  obtain ⟨s, hr, hs, hz⟩ := cat (P := P) (t := t) (X := X) (Y := Y) (w := w) ha hb
  exact ⟨s, w, hr, h s hs hz⟩
theorem opName22 {w : World} {z : Int} (h0 : 0 ≤ z) (h1 : z < 5) : Calls Tryz.prog 22 #[.int .i64 z] w (Ret fun v w' => v = .string (wd wOp z) ∧ Chg none_ w w') := by
  refine f22.calls _ ?_
  unfold f22.wp
  refine newBox fun w1 B1 k1 _ => ⟨h0, h1, _, wcell (l := wOp) B1 (by show _ < 5; omega), rfl, k1⟩
def fateW (t : T3) : List UInt8 := if t.2.1 = 3 then [116, 111, 114, 110, 32] ++ (nW t.2.2).data.toList else if t.2.1 = 1 then [107, 101, 112, 116] else [108, 111, 115, 116]
theorem fateText24 {w : World} {t : T3} (h : t.2.1 = 3 → 0 ≤ t.2.2 ∧ t.2.2 ≤ 2147483647) : Calls Tryz.prog 24 #[.agg (En.t3.enc t).toArray] w (Ret fun v w' => ∃ s, v = .string s ∧ s.data.toList = fateW t ∧ s.size ≤ 30 ∧ Chg none_ w w') := by
  refine f24.calls _ _ _ ?_
  unfold f24.wp
  refine newBox fun w1 B1 k1 _ => ⟨_, (B1.cell0 1).trans rfl, bc (fun h3 => ?_) fun h3 => ?_⟩
  · have h3 : t.2.1 = 3 := by simpa using h3
    obtain ⟨h0, h1⟩ := h h3
    refine ⟨_, (B1.cell0 2).trans rfl, Calls.use (number23 h0 (by omega)) ?_⟩
    rintro _ w2 ⟨rfl, k2⟩
    have hz := nW_len h1
    rw [← s_size] at hz
    refine ⟨_, rfl, catK (by decide) (by omega) fun s d y => ⟨s, rfl, ?_, ?_, k1.trans k2⟩⟩
    · rw [d, fateW, if_pos h3]
    · rw [y]; show 5 + _ ≤ 30; omega
  · have h3 : t.2.1 ≠ 3 := by simpa using h3
    refine ⟨_, (B1.cell0 1).trans rfl, bc (fun h1 => ⟨_, rfl, ?_, by decide, k1⟩) fun h1 => ⟨_, rfl, ?_, by decide, k1⟩⟩
    · have h1 : t.2.1 = 1 := by simpa using h1
      rw [fateW, if_neg h3, if_pos h1]
    · have h1 : t.2.1 ≠ 1 := by simpa using h1
      rw [fateW, if_neg h3, if_neg h1]
end Go.Proofs.YtdlbmmodlkmofaaGreatDoor
