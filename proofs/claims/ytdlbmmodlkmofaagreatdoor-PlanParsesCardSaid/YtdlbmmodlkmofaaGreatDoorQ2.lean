import Derived.Test.YtdlbmmodlkmofaaGreatDoorQ1
set_option maxRecDepth 20000
namespace Go.Proofs.YtdlbmmodlkmofaaGreatDoor
open Go Go.Vc Go.RowKit
theorem parse10 {w : World} (t : Tm w) (g : Gm) (s : ByteArray) : Calls Tryz.prog 10 #[.agg (gv g).toArray, .string s] w (Ret fun v w' => PV w' (parseF g s) v ∧ Chg none_ w w') := by
  refine f10.calls _ _ _ _ _ ?_
  unfold f10.wp
  refine newBox fun w1 B1 k1 s1 => newBox fun w2 B2 k2 s2 => ?_
  have k02 := k1.trans k2
  have A2 := k2.blk B1 (fun x => x)
  refine ⟨_, _, _, _, A2.reads0, Calls.use (geom35 w2 g) ?_⟩
  rintro _ w3 ⟨rfl, k3⟩
  have k03 := k02.trans k3
  have B3 := k3.blk B2 (fun x => x)
  have A3 := k3.blk A2 (fun x => x)
  have t3 : Tm w3 := by obtain ⟨m, hm⟩ := t; exact ⟨m, k03.cellS hm (fun x => x)⟩
  have ret0 : ∀ {w' : World} {cs : Array Value} (e l : Int), parseF g s = (e, l, [], []) → Blk w' w1.heap.size 27 cs → cs.size = 2 → Chg none_ w w' → canStore w' (⟨w1.heap.size, 0, none⟩ : Addr) 2 ∧ ∀ w4, w4 = setCells (⟨w1.heap.size, 0, none⟩ : Addr) 0 [.slice none 0 0, .slice none 0 0] w' →
      ∃ (q1 : Option Addr) (l1 c1 : Nat), ∃ (q2 : Option Addr) (l2 c2 : Nat), reads w4 (⟨w1.heap.size, 0, none⟩ : Addr) [.slice q1 l1 c1, .slice q2 l2 c2] ∧ (PV w4 (parseF g s) (.tuple #[.agg #[.slice q1 l1 c1, .slice q2 l2 c2], .int .i64 e, .int .i64 l]) ∧ Chg none_ w w4) := fun e l hp B hz k =>
    B.store hz.symm (by rw [hz]; rfl) fun w4 B4 k4 _ => ⟨_, _, _, _, _, _, B4.reads0, by rw [hp]; exact PV.nil w4 e l, k.up k4 fun b hb => by rw [hb]; have := k1.size; omega⟩
  refine ⟨_, rfl, bc (fun hne => ?_) fun heq => ?_⟩
  · have hne : gC g ≠ 0 := by simpa using hne
    exact ret0 _ _ (by rw [parseF, if_pos hne]) B3 rfl k03
  have heq : gC g = 0 := by simpa using heq
  refine bc (fun hbig => ?_) fun hsm => ?_
  · have hbig : 65536 < s.size := by have := of_decide_eq_true hbig; omega
    exact ret0 _ _ (by rw [parseF, if_neg (by omega), if_pos hbig]) B3 rfl k03
  have hsm : ¬ 65536 < s.size := by have := of_decide_eq_false hsm; omega
  have hp0 : parseF g s = match pT (s.size + 1) s [] [] 0 with
    | .inl n => (42, (n : Int), [], [])
    | .inr p => if chk g p.1 p.2 ≠ 0 then (chk g p.1 p.2, 0, [], []) else (0, 0, p.1, p.2) := by rw [parseF, if_neg (by omega), if_neg hsm]; rfl
  refine newBox fun w6 B6 k6 s6 => ?_
  have P6 : PO w6 w3.heap.size w3.heap.size 0 [] [] := ⟨⟨none, 0, 0, none, 0, 0, [], B6, SE.nil _ _ _ _, SE.nil _ _ _ _, rfl, fun i h c hh => by simp at hh, fun i j h h' g hh => by simp at hh⟩, Nat.le_refl _, Nat.zero_le _, Nat.zero_le _, fun c hc => by simp at hc⟩
  refine ⟨fun x1 x2 w' => ∃ (n m : Nat) (fs : List T3) (cs : List Cr), x2 = (n : Int) ∧ PO w' w3.heap.size w3.heap.size n fs cs ∧ n + x1.size ≤ 65536 ∧ x1.size < m ∧ pT m x1 fs cs n = pT (s.size + 1) s [] [] 0 ∧ Chg none_ w3 w', fun x1 _ _ => x1.size, ⟨0, s.size + 1, [], [], rfl, P6, by omega, by omega, rfl, k6⟩, ?_⟩
  rintro x1 _ w7 ⟨n, m, fs, cs, rfl, P7, hn, hm, he, k7⟩
  have B7 := k7.blk B3 (fun x => x)
  have A7 := k7.blk A3 (fun x => x)
  obtain ⟨m, rfl⟩ : ∃ m', m = m' + 1 := ⟨m - 1, by omega⟩
  rw [pT] at he
  have tm : ∀ {w' : World}, Chg none_ w3 w' → Tm w' := fun k => by obtain ⟨m, hm⟩ := t3; exact ⟨m, k.cellS hm (fun x => x)⟩
  refine bc (fun hne => ?_) fun hemp => ?_
  · have h0 : ¬ x1.size = 0 := fun h => ba_neN hne (by
    have hl : x1.data.toList = [] := List.eq_nil_of_length_eq_zero (by rw [← s_size]; exact h)
    rw [← ba_back x1, hl])
    rw [if_neg h0] at he
    refine Calls.use (cut28 (tm k7) x1 (by omega)) ?_
    rintro _ w8 ⟨rfl, k8⟩
    have k78 := k7.trans k8
    refine ⟨_, _, _, rfl, bc (fun hc => ?_) fun hc => ?_⟩
    · have hc : cutE x1 = false := by simpa using hc
      rw [if_pos hc] at he
      exact ret0 _ _ (by rw [hp0, ← he]) (k8.blk B7 (fun x => x)) rfl (k03.trans k78)
    have hc : cutE x1 = true := by simpa using hc
    have hcz := cut_sz hc
    rw [if_neg (by rw [hc]; decide)] at he
    refine Calls.use (read29 (P7.chgN k8) (tm k78) (by omega) (cutL x1) (by omega)) ?_
    rintro _ w10 ⟨ok, rfl, h1, h2, k10⟩
    have k310 : Chg none_ w3 w10 := k78.up k10 fun b hb => hb
    refine ⟨_, rfl, ?_⟩
    cases ok with
    | false =>
      rw [h2 rfl] at he
      exact bcT rfl (ret0 _ _ (by rw [hp0, ← he]) (k310.blk B3 (fun x => x)) rfl (k03.trans k310))
    | true =>
      obtain ⟨fs', cs', hr, P'⟩ := h1 rfl
      rw [hr] at he
      rw [wrapS (x := (n : Int) + 1) (by omega) (by omega)]
      exact bcF rfl ⟨⟨n + 1, m, fs', cs', by omega, P', by omega, by omega, he, k310⟩, by show (cutR x1).size < x1.size; omega⟩
  have h0 : x1.size = 0 := by
    have := ba_eqN hemp
    rw [this]; rfl
  rw [if_pos h0] at he
  have hp1 : parseF g s = if chk g fs cs ≠ 0 then (chk g fs cs, 0, [], []) else (0, 0, fs, cs) := by rw [hp0, ← he]
  obtain ⟨q1, l1, c1, q2, l2, c2, hs', C7, S7, T7, hl, ho, _⟩ := P7.ex
  have e1 := S7.len
  have e2 := T7.len
  have nf := P7.nf
  have nc := P7.nc
  have R7 : CrsR w7 q2 l2 cs := ⟨hs', T7.re, hl, fun i h c hh hc => by
    obtain ⟨g1, g2, F⟩ := ho i h c hh hc
    have h3 := P7.nt c (List.mem_of_getElem? hc)
    have h4 := F.len
    exact ⟨g1, g2, F.re, by omega, F.le⟩⟩
  refine ⟨_, _, _, _, A7.reads0, _, _, _, _, _, _, C7.reads0, Calls.use (check14 g S7.re R7 (by omega) (by omega)) ?_⟩
  rintro _ w12 ⟨rfl, k12⟩
  have k312 := k7.trans k12
  refine ⟨_, rfl, bc (fun hne => ?_) fun heq => ?_⟩
  · have hne : chk g fs cs ≠ 0 := by simpa using hne
    exact ret0 _ _ (by rw [hp1, if_pos hne]) (k312.blk B3 (fun x => x)) rfl (k03.trans k312)
  have heq' : chk g fs cs = 0 := by simpa using heq
  refine ⟨_, _, _, _, _, _, (k12.blk C7 (fun x => x)).reads0, (k312.blk B3 (fun x => x)).store rfl rfl fun w14 B14 k14 _ => ⟨_, _, _, _, _, _, B14.reads0, ?_, (k03.trans k312).up k14 fun b hb => by rw [hb]; have := k1.size; omega⟩⟩
  have hlt : w1.heap.size < w3.heap.size := by have := k3.size; omega
  rw [hp1, if_neg (by omega)]
  refine ⟨q1, l1, c1, q2, l2, c2, rfl, ?_, ?_, by omega, by omega⟩
  · exact ((S7.chgN k12).chg k14 fun g hg he => by
      have := (S7.lt hg).2
      have he : g = w1.heap.size := he
      omega).re
  · refine ⟨hs', ((T7.chgN k12).chg k14 fun g hg he => by
      have := (T7.lt hg).2
      have he : g = w1.heap.size := he
      omega).re, hl, fun i h c hh hc => ?_⟩
    obtain ⟨g1, g2, F⟩ := ho i h c hh hc
    have h3 := P7.nt c (List.mem_of_getElem? hc)
    have h4 := F.len
    exact ⟨g1, g2, ((F.chgN k12).chg k14 fun g hg he => by
      have := (F.lt hg).2
      have he : g = w1.heap.size := he
      omega).re, by omega, F.le⟩
end Go.Proofs.YtdlbmmodlkmofaaGreatDoor
