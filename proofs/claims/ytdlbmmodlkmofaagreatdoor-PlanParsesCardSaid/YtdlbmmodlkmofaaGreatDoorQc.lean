import Derived.Test.YtdlbmmodlkmofaaGreatDoorQb
import Derived.Test.YtdlbmmodlkmofaaGreatDoorQa
set_option maxRecDepth 20000
namespace Go.Proofs.YtdlbmmodlkmofaaGreatDoor
open Go Go.Vc Go.RowKit
/-! # the reference's Parse -/
theorem split31' {w : World} (t : Tm w) (s : ByteArray) (hs : s.size < 4294967281) : Calls Tryz.prog 31 #[.string s, .string ⟨#[32]⟩] w (Ret fun v w' => ∃ c, v = .slice (some ⟨w.heap.size, 0, none⟩) (wordsF s).length c ∧ RE En.str w' (some ⟨w.heap.size, 0, none⟩) (wordsF s).length (wordsF s) ∧ Chg none_ w w') := by
  obtain ⟨m, hm⟩ := t
  refine (Tryz.strings_Split s ⟨#[32]⟩ m w hs hm (by decide)).mono ?_
  rintro _ _ ⟨rfl, rfl⟩
  rw [← wordsF_len]
  exact ⟨_, rfl, _, rfl, litStrs rfl rfl, (Chg.refl _ _).alloc _⟩
theorem idx_none : ∀ {l : List UInt8}, (∀ b ∈ l, b ≠ 10) → Lib.index l [10] = -1 := fun h => (Lib.index_one _ 10).trans (idx_miss _ _ h)
theorem ext_all (s : ByteArray) : s.extract 0 s.size = s := by
  rw [← ba_back (s.extract 0 s.size), Lib.extract_data]
  conv => rhs; rw [← ba_back s]
  rw [List.drop_zero, Nat.sub_zero, s_size, List.take_length]
/-- from f on no newline ahead of i, one at i -/
theorem cut_ext {s : ByteArray} {f i : Nat} (hf : f ≤ i) (hi : i < s.size) (h : ∀ j, f ≤ j → j < i → s.data.toList[j]? ≠ some 10) (hu : s.data.toList[i]? = some 10) :
    cutE (s.extract f s.size) = true ∧ cutL (s.extract f s.size) = s.extract f i ∧ cutR (s.extract f s.size) = s.extract (i + 1) s.size := by
  have hz := s_size s
  have e : (s.extract f s.size).data.toList = (s.extract f i).data.toList ++ 10 :: (s.extract (i + 1) s.size).data.toList := by
    have h1 : (s.data.toList.drop f)[i - f]? = some 10 := by rw [List.getElem?_drop, show f + (i - f) = i by omega]; exact hu
    have h2 := cut_at h1
    rw [Lib.extract_data, Lib.extract_data, Lib.extract_data]
    rw [List.take_of_length_le (by rw [List.length_drop]; omega), List.take_of_length_le (l := s.data.toList.drop (i + 1)) (by rw [List.length_drop]; omega)]
    rw [List.drop_drop, show f + (i - f + 1) = i + 1 by omega] at h2
    exact h2.symm
  have hn : ∀ b ∈ (s.extract f i).data.toList, b ≠ 10 := fun b hb he => by
    obtain ⟨j, hj⟩ := List.getElem?_of_mem hb
    rw [Lib.extract_data] at hj
    have hlt := get_lt hj
    rw [List.length_take] at hlt
    rw [List.getElem?_take_of_lt (by omega), List.getElem?_drop] at hj
    rw [he] at hj
    exact h (f + j) (by omega) (by omega) hj
  have hc := cut_line (l := (s.extract f i).data.toList) (r := (s.extract (i + 1) s.size).data.toList) hn
  refine ⟨by rw [cutE, e, hc], ?_, ?_⟩
  · rw [cutL, e, hc]
  · rw [cutR, e, hc]
theorem cut_non {s : ByteArray} {f : Nat} (h : ∀ j, f ≤ j → j < s.size → s.data.toList[j]? ≠ some 10) : cutE (s.extract f s.size) = false := by
  have hn : ∀ b ∈ (s.extract f s.size).data.toList, b ≠ 10 := fun b hb he => by
    obtain ⟨j, hj⟩ := List.getElem?_of_mem hb
    rw [Lib.extract_data] at hj
    have hlt := get_lt hj
    rw [List.length_take, List.length_drop] at hlt
    have hz := s_size s
    rw [List.getElem?_take_of_lt (by omega), List.getElem?_drop] at hj
    rw [he] at hj
    exact h (f + j) (by omega) (by omega) hj
  rw [cutE, Lib.cut, idx_none hn, if_neg (by decide)]
theorem parse11 {w : World} (t : Tm w) (g : Gm) (s : ByteArray) : Calls Tryz.prog 11 #[.agg (gv g).toArray, .string s] w (Ret fun v w' => PV w' (parseF g s) v ∧ Chg none_ w w') := by
  refine f11.calls _ _ _ _ _ ?_
  unfold f11.wp
  refine newBox fun w1 B1 k1 s1 => newBox fun w2 B2 k2 s2 => ?_
  have k02 := k1.trans k2
  have A2 := k2.blk B1 (fun x => x)
  refine ⟨_, _, _, _, A2.reads0, Calls.use (geom46 w2 g) ?_⟩
  rintro _ w3 ⟨rfl, k3⟩
  have k03 := k02.trans k3
  have B3 := k3.blk B2 (fun x => x)
  have A3 := k3.blk A2 (fun x => x)
  have t3 : Tm w3 := by obtain ⟨m, hm⟩ := t; exact ⟨m, k03.cellS hm (fun x => x)⟩
  have ret0 : ∀ {w' : World} {cs : Array Value} (e l : Int), parseF g s = (e, l, [], []) → Blk w' w1.heap.size 27 cs → cs.size = 2 → Chg none_ w w' → canStore w' (⟨w1.heap.size, 0, none⟩ : Addr) 2 ∧ ∀ w4, w4 = setCells (⟨w1.heap.size, 0, none⟩ : Addr) 0 [.slice none 0 0, .slice none 0 0] w' →
      ∃ (q1 : Option Addr) (l1 c1 : Nat), ∃ (q2 : Option Addr) (l2 c2 : Nat), reads w4 (⟨w1.heap.size, 0, none⟩ : Addr) [.slice q1 l1 c1, .slice q2 l2 c2] ∧ (PV w4 (parseF g s) (.tuple #[.agg #[.slice q1 l1 c1, .slice q2 l2 c2], .int .i64 e, .int .i64 l]) ∧ Chg none_ w w4) := fun e l hp B hz k =>
    B.store hz.symm (by rw [hz]; rfl) fun w4 B4 k4 _ => ⟨_, _, _, _, _, _, B4.reads0, by rw [hp]; exact PV.nil w4 e l, k.up k4 fun b hb => by rw [hb]; have := k1.size; omega⟩
  refine ⟨_, rfl, bc (fun hne => ?_) fun heq => ?_⟩
  · have hne : gC g ≠ 0 := by simpa using hne
    exact ret0 _ _ (by rw [parseF, if_pos hne]) B3 rfl k03
  have heq : gC g = 0 := by simpa using heq
  refine bc (fun hbig => ?_) fun hsm => ?_
  · have hbig : 65536 < s.size := by have := of_decide_eq_true hbig; omega
    exact ret0 _ _ (by rw [parseF, if_neg (by omega), if_pos hbig]) B3 rfl k03
  have hsm : ¬ 65536 < s.size := by have := of_decide_eq_false hsm; omega
  have hp0 : parseF g s = match pT (s.size + 1) s [] [] 0 with
    | .inl n => (42, (n : Int), [], [])
    | .inr p => if chk g p.1 p.2 ≠ 0 then (chk g p.1 p.2, 0, [], []) else (0, 0, p.1, p.2) := by rw [parseF, if_neg (by omega), if_neg hsm]; rfl
  refine newBox fun w6 B6 k6 s6 => ?_
  have P6 : PO w6 w3.heap.size w3.heap.size 0 [] [] := ⟨⟨none, 0, 0, none, 0, 0, [], B6, SE.nil _ _ _ _, SE.nil _ _ _ _, rfl, fun i h c hh => by simp at hh, fun i j h h' g hh => by simp at hh⟩, Nat.le_refl _, Nat.zero_le _, Nat.zero_le _, fun c hc => by simp at hc⟩
  refine ⟨fun x1 x2 x3 w' => ∃ (n f i m : Nat) (fs : List T3) (cs : List Cr), x1 = (n : Int) ∧ x2 = (f : Int) ∧ x3 = (i : Int) ∧ PO w' w3.heap.size w3.heap.size n fs cs ∧ n ≤ f ∧ f ≤ i ∧ i ≤ s.size ∧ (∀ j, f ≤ j → j < i → s.data.toList[j]? ≠ some 10) ∧ s.size - f < m ∧ pT m (s.extract f s.size) fs cs n = pT (s.size + 1) s [] [] 0 ∧ Chg none_ w3 w', fun _ _ x3 _ => s.size - x3.toNat,
    ⟨0, 0, 0, s.size + 1, [], [], rfl, rfl, rfl, P6, Nat.le_refl _, Nat.le_refl _, Nat.zero_le _, fun j _ h => absurd h (Nat.not_lt_zero _), by omega, by rw [ext_all], k6⟩, ?_⟩
  rintro _ _ _ w7 ⟨n, f, i, m, fs, cs, rfl, rfl, rfl, P7, hnf, hfi, his, hno, hm, he, k7⟩
  have B7 := k7.blk B3 (fun x => x)
  have A7 := k7.blk A3 (fun x => x)
  obtain ⟨m, rfl⟩ : ∃ m', m = m' + 1 := ⟨m - 1, by omega⟩
  have hz := s_size s
  have hse : (s.extract f s.size).size = s.size - f := by rw [ByteArray.size_extract]; omega
  rw [pT] at he
  have tm : ∀ {w' : World}, Chg none_ w3 w' → Tm w' := fun k => by obtain ⟨m, hm⟩ := t3; exact ⟨m, k.cellS hm (fun x => x)⟩
  refine bc (fun hlt => ?_) fun hge => ?_
  · have hi : i < s.size := by simpa using hlt
    obtain ⟨u, hu⟩ := get_ex (l := s.data.toList) (i := i) (by omega)
    rw [wrapS (x := (i : Int) + 1) (by omega) (by omega)]
    refine ⟨u, by omega, (s_get s i).trans hu, bc (fun h10 => ⟨⟨n, f, i + 1, m + 1, fs, cs, rfl, rfl, by omega, P7, hnf, by omega, by omega, fun j h1 h2 hj => ?_, hm, by rw [pT]; exact he, k7⟩, meas hi⟩) fun h10 => ?_⟩
    · rcases Nat.lt_or_ge j i with h3 | h3
      · exact hno j h1 h3 hj
      · have : j = i := by omega
        subst this
        rw [hu] at hj
        cases hj
        simp at h10
    have hu10 : u = 10 := by
      have h : ((u.toNat : Nat) : Int) = 10 := by simpa using h10
      exact UInt8.toNat_inj.1 (by show u.toNat = 10; omega)
    subst hu10
    obtain ⟨c1, c2, c3⟩ := cut_ext hfi hi hno hu
    rw [if_neg (by omega), c1, if_neg (by decide), c2, c3] at he
    have hL : (s.extract f i).size < 4294967281 := by rw [ByteArray.size_extract]; omega
    have k7s : w3.heap.size ≤ w7.heap.size := k7.size
    refine ⟨by omega, by omega, by omega, by omega, Calls.use (split31' (tm k7) (s.extract f i) hL) ?_⟩
    rintro _ w8 ⟨c0, rfl, W8, k8⟩
    have hw0 := wordsF_len (s.extract f i)
    generalize wordsF (s.extract f i) = ws at *
    have hn : n ≤ 1000000 := by omega
    have k78 := k7.trans k8
    have wkeep : ∀ {w' : World}, Chg (fun k => w3.heap.size ≤ k ∧ k < w7.heap.size) w8 w' → RE En.str w' (some ⟨w7.heap.size, 0, none⟩) ws.length ws := fun k => W8.chgS k fun a ha hs => by
      cases ha
      have hs2 : w7.heap.size < w7.heap.size := hs.2
      omega
    -- what a line comes to
    have fin : ∀ {x : Bool} {w' : World}, RdS w3.heap.size w3.heap.size n fs cs ws w7 w8 (.bool x) w' → bcase (!x) (canStore w' (⟨w1.heap.size, 0, none⟩ : Addr) 2 ∧ ∀ w15, w15 = setCells (⟨w1.heap.size, 0, none⟩ : Addr) 0 [.slice none 0 0, .slice none 0 0] w' →
        ∃ (q6 : Option Addr) (l6 c6 : Nat), ∃ (q7 : Option Addr) (l7 c7 : Nat), reads w15 (⟨w1.heap.size, 0, none⟩ : Addr) [.slice q6 l6 c6, .slice q7 l7 c7] ∧ (PV w15 (parseF g s) (.tuple #[.agg #[.slice q6 l6 c6, .slice q7 l7 c7], .int .i64 42, .int .i64 (n : Int)]) ∧ Chg none_ w w15))
        ((∃ (n' f' i' m' : Nat) (fs' : List T3) (cs' : List Cr), IntKind.wrap .i64 ((n : Int) + 1) = (n' : Int) ∧ ((i : Int) + 1) = (f' : Int) ∧ ((i : Int) + 1) = (i' : Int) ∧ PO w' w3.heap.size w3.heap.size n' fs' cs' ∧ n' ≤ f' ∧ f' ≤ i' ∧ i' ≤ s.size ∧ (∀ j, f' ≤ j → j < i' → s.data.toList[j]? ≠ some 10) ∧ s.size - f' < m' ∧ pT m' (s.extract f' s.size) fs' cs' n' = pT (s.size + 1) s [] [] 0 ∧ Chg none_ w3 w') ∧ s.size - ((i : Int) + 1).toNat < s.size - (i : Int).toNat) := by
      rintro x w' ⟨ok, hx, h1, h2, k⟩
      cases hx
      have k3' : Chg none_ w3 w' := k78.up k fun i hi => hi.1
      cases x with
      | false =>
        rw [h2 rfl] at he
        exact bcT rfl (ret0 _ _ (by rw [hp0, ← he]) (k3'.blk B3 (fun x => x)) rfl (k03.trans k3'))
      | true =>
        obtain ⟨fs', cs', hr, P'⟩ := h1 rfl
        rw [hr] at he
        exact bcF rfl ⟨⟨n + 1, i + 1, i + 1, m, fs', cs', wrapS (by omega) (by omega), rfl, rfl, P', by omega, Nat.le_refl _, by omega, (fun j h3 h4 => absurd h4 (by omega)), by omega, he, k3'⟩, meas hi⟩
    refine ⟨_, _, _, rfl, fun x w' => (wAt ws 0 = wFaultW → RdS w3.heap.size w3.heap.size n fs cs ws w7 w8 (.bool x) w') ∧ (wAt ws 0 ≠ wFaultW → x = false ∧ w' = w8), ?_, ?_⟩
    rotate_left
    · obtain ⟨_, e, r0, _⟩ := rdW W8 (i := 0) (by omega)
      cases e
      refine onPtr_mk ⟨by decide, by omega, _, r0, bc (fun hb => ?_) fun hb => ⟨fun h => absurd h (ba_ne hb), fun _ => ⟨rfl, rfl⟩⟩⟩
      have hF : wAt ws 0 = wFaultW := ba_eq hb
      refine Calls.use (faultLine32 P7 k8 hn W8 hF) ?_
      rintro _ w10 ⟨ok, rfl, h⟩
      exact ⟨_, rfl, fun _ => ⟨ok, rfl, h⟩, fun h => absurd hF h⟩
    rintro x4 w9 ⟨hF, hF'⟩
    have W9 : RE En.str w9 (some ⟨w7.heap.size, 0, none⟩) ws.length ws := by
      by_cases h0 : wAt ws 0 = wFaultW
      · obtain ⟨_, _, _, _, k⟩ := hF h0; exact wkeep k
      · rw [(hF' h0).2]; exact W8
    refine ⟨fun x w' => ((wAt ws 0 = wFaultW ∨ wAt ws 0 = wCrashW) → RdS w3.heap.size w3.heap.size n fs cs ws w7 w8 (.bool x) w') ∧ (wAt ws 0 ≠ wFaultW → wAt ws 0 ≠ wCrashW → x = false ∧ w' = w8), ?_, ?_⟩
    rotate_left
    · obtain ⟨_, e, r0, _⟩ := rdW W9 (i := 0) (by omega)
      cases e
      refine onPtr_mk ⟨by decide, by omega, _, r0, bc (fun hb => ?_) fun hb => ⟨fun h => hF (h.resolve_right (ba_ne hb)), fun h _ => hF' h⟩⟩
      have hC : wAt ws 0 = wCrashW := ba_eq hb
      have n0 : wAt ws 0 ≠ wFaultW := by rw [hC]; exact nFC.symm
      obtain ⟨rfl, rfl⟩ := hF' n0
      refine Calls.use (crashLine33 P7 k8 hn W8 hC) ?_
      rintro _ w10 ⟨ok, rfl, h⟩
      exact ⟨_, rfl, fun _ => ⟨ok, rfl, h⟩, fun _ h => absurd hC h⟩
    rintro x5 w11 ⟨hG, hG'⟩
    have W11 : RE En.str w11 (some ⟨w7.heap.size, 0, none⟩) ws.length ws := by
      by_cases h0 : wAt ws 0 = wFaultW ∨ wAt ws 0 = wCrashW
      · obtain ⟨_, _, _, _, k⟩ := hG h0; exact wkeep k
      · rw [(hG' (fun h => h0 (.inl h)) (fun h => h0 (.inr h))).2]; exact W8
    refine ⟨fun x w' => RdS w3.heap.size w3.heap.size n fs cs ws w7 w8 (.bool x) w', fun x6 w13 h => fin h, ?_⟩
    obtain ⟨_, e, r0, _⟩ := rdW W11 (i := 0) (by omega)
    cases e
    refine onPtr_mk ⟨by decide, by omega, _, r0, bc (fun hb => ?_) fun hb => ?_⟩
    · have hP : wAt ws 0 = wPageW := ba_eq hb
      have n0 : wAt ws 0 ≠ wFaultW := by rw [hP]; exact nFP.symm
      have n1 : wAt ws 0 ≠ wCrashW := by rw [hP]; exact nCP.symm
      obtain ⟨rfl, rfl⟩ := hG' n0 n1
      refine Calls.use (pageLine34 P7 k8 hn W8 hP) ?_
      rintro _ w10 ⟨ok, rfl, h⟩
      exact ⟨_, rfl, ok, rfl, h⟩
    · by_cases h0 : wAt ws 0 = wFaultW ∨ wAt ws 0 = wCrashW
      · exact hG h0
      · have n0 : wAt ws 0 ≠ wFaultW := fun h => h0 (.inl h)
        have n1 : wAt ws 0 ≠ wCrashW := fun h => h0 (.inr h)
        obtain ⟨rfl, rfl⟩ := hG' n0 n1
        exact ⟨false, rfl, (fun h => by cases h), (fun _ => read_none n0 n1 (ba_ne hb)), (Chg.refl none_ _).of_none _⟩
  have hil : i = s.size := by have := of_decide_eq_false hge; omega
  subst hil
  refine bc (fun hlt => ?_) fun hend => ?_
  · have hlt : f < s.size := by have := of_decide_eq_true hlt; omega
    rw [if_neg (by omega), cut_non hno, if_pos rfl] at he
    exact ret0 _ _ (by rw [hp0, ← he]) B7 rfl (k03.trans k7)
  have hend : f = s.size := by have := of_decide_eq_false hend; omega
  rw [if_pos (by omega)] at he
  have hp1 : parseF g s = if chk g fs cs ≠ 0 then (chk g fs cs, 0, [], []) else (0, 0, fs, cs) := by rw [hp0, ← he]
  obtain ⟨q1, l1, c1, q2, l2, c2, hs', C7, S7, T7, hl, ho, _⟩ := P7.ex
  have e1 := S7.len
  have e2 := T7.len
  have nf := P7.nf
  have nc := P7.nc
  have R7 : CrsR w7 q2 l2 cs := ⟨hs', T7.re, hl, fun i h c hh hc => by
    obtain ⟨g1, g2, F⟩ := ho i h c hh hc
    have h3 := P7.nt c (List.mem_of_getElem? hc)
    have h4 := F.len
    exact ⟨g1, g2, F.re, by omega, F.le⟩⟩
  refine ⟨_, _, _, _, A7.reads0, _, _, _, _, _, _, C7.reads0, Calls.use (check15 g S7.re R7 (by omega) (by omega)) ?_⟩
  rintro _ w12 ⟨rfl, k12⟩
  have k312 := k7.trans k12
  refine ⟨_, rfl, bc (fun hne => ?_) fun heq => ?_⟩
  · have hne : chk g fs cs ≠ 0 := by simpa using hne
    exact ret0 _ _ (by rw [hp1, if_pos hne]) (k312.blk B3 (fun x => x)) rfl (k03.trans k312)
  have heq' : chk g fs cs = 0 := by simpa using heq
  refine ⟨_, _, _, _, _, _, (k12.blk C7 (fun x => x)).reads0, (k312.blk B3 (fun x => x)).store rfl rfl fun w14 B14 k14 _ => ⟨_, _, _, _, _, _, B14.reads0, ?_, (k03.trans k312).up k14 fun b hb => by rw [hb]; have := k1.size; omega⟩⟩
  have hlt : w1.heap.size < w3.heap.size := by have := k3.size; omega
  rw [hp1, if_neg (by omega)]
  refine ⟨q1, l1, c1, q2, l2, c2, rfl, ?_, ?_, by omega, by omega⟩
  · exact ((S7.chgN k12).chg k14 fun g hg he => by
      have := (S7.lt hg).2
      have he : g = w1.heap.size := he
      omega).re
  · refine ⟨hs', ((T7.chgN k12).chg k14 fun g hg he => by
      have := (T7.lt hg).2
      have he : g = w1.heap.size := he
      omega).re, hl, fun i h c hh hc => ?_⟩
    obtain ⟨g1, g2, F⟩ := ho i h c hh hc
    have h3 := P7.nt c (List.mem_of_getElem? hc)
    have h4 := F.len
    exact ⟨g1, g2, ((F.chgN k12).chg k14 fun g hg he => by
      have := (F.lt hg).2
      have he : g = w1.heap.size := he
      omega).re, by omega, F.le⟩
end Go.Proofs.YtdlbmmodlkmofaaGreatDoor
