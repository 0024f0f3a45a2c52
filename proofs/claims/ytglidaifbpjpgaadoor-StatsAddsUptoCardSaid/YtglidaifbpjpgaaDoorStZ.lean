import Derived.Test.YtglidaifbpjpgaaDoorStY
set_option maxRecDepth 20000
namespace Go.Proofs.YtglidaifbpjpgaaDoor
namespace Mo
open Go Go.Vc Go.RowKit
abbrev at0 (x : Int) : Int := if x < 0 then 0 else x
structure Dv where
  c1 : Int
  prog : Int
  er : Int
  c4 : Int
  c5 : Int
  wear : List Int
def wst (i : Nat) (n : Int) (cs : List Int) : List Int :=
  let c := if i = 0 ∨ at0 n < gt cs 13 then cs.set 13 (at0 n) else cs
  if at0 n > gt c 14 then c.set 14 (at0 n) else c
def wrN (l : List Int) (cs : List Int) : Nat → List Int
  | 0 => cs
  | n + 1 => match l[n]? with
    | some x => wst n x (wrN l cs n)
    | none => wrN l cs n
theorem wrN_next {l cs : List Int} {n : Nat} {x : Int} (h : l[n]? = some x) : wrN l cs (n + 1) = wst n x (wrN l cs n) := by rw [wrN, h]
def dev (d : Dv) (page : Int) (cs : List Int) : List Int := wrN d.wear ((cs.set 11 (wrt (at0 d.prog) (at0 page))).set 12 (at0 d.er)) d.wear.length
theorem at0_nn (x : Int) : 0 ≤ at0 x := by unfold at0; split <;> omega
theorem set_gt {cs : List Int} {i : Nat} (h : i < cs.length) : cs.set i (gt cs i) = cs := set_same (by simp [gt, h])
theorem device48 {w0 w : World} {b : Nat} {cs : List Int} {d : Dv} {page : Int} {qu : Option Addr} {lu cu : Nat} (h : Cb w b cs) (k0 : Chg none_ w0 w) (hb0 : w0.heap.size ≤ b) (H : RE En.int w0 qu lu d.wear) (hl : lu ≤ 1048576) :
    Calls Tryd.prog 48 #[.pointer (some ⟨b, 0, none⟩), .agg #[.int .i64 d.c1, .int .i64 d.prog, .int .i64 d.er, .int .i64 d.c4, .int .i64 d.c5, .slice qu lu cu], .int .i64 page] w (Ret fun v w' => v = .tuple #[] ∧ Cb w' b (dev d page cs) ∧ Chg (fun k => k = b) w w') := by
  have hlen := H.len
  refine f48.calls _ _ _ _ _ _ _ _ _ _ ?_
  unfold f48.wp
  refine newBox fun w1 B1 k1 s1 => ?_
  have hb := h.blk.lt
  have B1d := B1.drew
  have h1 := (h.chg k1 (fun x => x)).drew
  have k1d : Chg (fun k => k = b) w w1.drew := (k1.of_none _).drew
  refine ⟨d.prog, (B1d.cell0 1).trans rfl, fun w2 => Cb w2 b (cs.set 11 (wrt (at0 d.prog) (at0 page))) ∧ Chg (fun k => k = b) w1.drew w2, ?_, fun x w3 => w1.drew = w3 ∧ (x = true ↔ at0 page > 0 ∧ at0 d.prog > IntKind.wrap .i64 (Int.tdiv 4611686018427387904 (at0 page))), ?_, ?_⟩
  · rintro w2 ⟨h2, k2⟩
    have B2 := k2.blk B1d (by omega)
    refine ⟨d.er, (B2.cell0 2).trans rfl, onPtr_mk ⟨h2.can (by omega), fun w6 e6 => ?_⟩⟩
    obtain ⟨h6, k6⟩ := h2.put e6
    have B6 := k6.blk B2 (by omega)
    have k06 : Chg (fun k => k = b) w w6 := (k1d.trans k2).trans k6
    have e12 : (if (0 : Int) > d.er then (0 : Int) else d.er) = at0 d.er := rfl
    rw [e12] at h6
    refine ⟨qu, lu, cu, (B6.cell0 5).trans rfl, fun x w7 => ∃ i : Nat, x = (i : Int) ∧ i ≤ lu ∧ Cb w7 b (wrN d.wear ((cs.set 11 (wrt (at0 d.prog) (at0 page))).set 12 (at0 d.er)) i) ∧ Chg (fun k => k = b) w w7, fun x _ => lu - x.toNat, ⟨0, rfl, by omega, h6, k06⟩, ?_⟩
    rintro _ w7 ⟨i, rfl, hi, h7, k7⟩
    refine bc (fun g => ?_) fun g => ?_
    · have g : i < lu := by simp at g; omega
      obtain ⟨a, x, ha, hx, hr⟩ := H.ex g
      subst ha
      have k07 : Chg none_ w0 w7 := k0.up k7 fun k hk => by omega
      rw [wrapN (by omega)]
      have hnx := wrN_next (cs := (cs.set 11 (wrt (at0 d.prog) (at0 page))).set 12 (at0 d.er)) hx
      refine onPtr_mk ⟨by omega, by omega, x, reads_one' (k07.readsN hr), fun w8 => (∃ c, Cb w8 b c ∧ c = (if i = 0 ∨ at0 x < gt (wrN d.wear ((cs.set 11 (wrt (at0 d.prog) (at0 page))).set 12 (at0 d.er)) i) 13 then (wrN d.wear ((cs.set 11 (wrt (at0 d.prog) (at0 page))).set 12 (at0 d.er)) i).set 13 (at0 x) else (wrN d.wear ((cs.set 11 (wrt (at0 d.prog) (at0 page))).set 12 (at0 d.er)) i))) ∧ Chg (fun k => k = b) w7 w8, ?_, bc (fun g1 => onPtr_mk ⟨h7.can (by omega), fun w9 e9 => ?_⟩) fun g1 => onPtr_mk ⟨_, h7.cell (i := 13) (by omega), bc (fun g2 => onPtr_mk ⟨h7.can (by omega), fun w10 e10 => ?_⟩) fun g2 => ?_⟩⟩
      · rintro w8 ⟨⟨c, h8, hc⟩, k8⟩
        refine onPtr_mk ⟨_, h8.cell (i := 14) (by omega), onPtr_mk ⟨h8.can (by omega), fun w11 e11 => ?_⟩⟩
        obtain ⟨h11, k11⟩ := h8.put e11
        refine ⟨⟨i + 1, rfl, by omega, ?_, (k7.trans k8).trans k11⟩, by simp only [Int.toNat_natCast]; omega⟩
        rw [hnx]
        unfold wst
        rw [← hc]
        show Cb w11 b (if at0 x > gt c 14 then c.set 14 (at0 x) else c)
        have e : (if (if (0 : Int) > x then (0 : Int) else x) > gt c 14 then (if (0 : Int) > x then (0 : Int) else x) else gt c 14) = if at0 x > gt c 14 then at0 x else gt c 14 := rfl
        rw [e] at h11
        by_cases hg : at0 x > gt c 14
        · rw [if_pos hg] at h11 ⊢; exact h11
        · rw [if_neg hg] at h11 ⊢
          rw [set_gt (by rw [h8.len]; omega)] at h11
          exact h11
      · obtain ⟨h9, k9⟩ := h7.put e9
        exact ⟨⟨_, h9, (if_pos (Or.inl (by simpa using g1))).symm⟩, k9⟩
      · obtain ⟨h10, k10⟩ := h7.put e10
        exact ⟨⟨_, h10, (if_pos (Or.inr (of_decide_eq_true g2))).symm⟩, k10⟩
      · refine ⟨⟨_, h7, (if_neg ?_).symm⟩, Chg.refl _ _⟩
        rintro (h | h)
        · simp at g1; exact g1 h
        · exact (of_decide_eq_false g2) h
    · have : i = lu := by simp at g; omega
      subst this
      refine ⟨rfl, ?_, k7⟩
      unfold dev
      rw [hlen]; exact h7
  · rintro x _ ⟨rfl, hx⟩
    have e1 : IntKind.wrap .i64 ((if (0 : Int) > d.prog then (0 : Int) else d.prog) * (if (0 : Int) > page then (0 : Int) else page)) = IntKind.wrap .i64 (at0 d.prog * at0 page) := rfl
    refine bc (fun g => onPtr_mk ⟨h1.can (by omega), fun w4 e4 => ?_⟩) fun g => onPtr_mk ⟨h1.can (by omega), fun w5 e5 => ?_⟩
    · obtain ⟨h4, k4⟩ := h1.put e4
      refine ⟨?_, k4⟩
      unfold wrt
      rw [if_pos (hx.1 g)]
      exact h4
    · obtain ⟨h5, k5⟩ := h1.put e5
      refine ⟨?_, k5⟩
      unfold wrt
      rw [if_neg (fun hh => by rw [hx.2 hh] at g; cases g)]
      exact h5
  · have e1 : (if (0 : Int) > page then (0 : Int) else page) = at0 page := rfl
    have e2 : (if (0 : Int) > d.prog then (0 : Int) else d.prog) = at0 d.prog := rfl
    rw [e1, e2]
    refine bc (fun g => ⟨by simp at g; omega, rfl, ?_⟩) fun g => ⟨rfl, ?_⟩
    · simp only [decide_eq_true_eq] at g ⊢
      exact ⟨fun h => ⟨g, h⟩, fun h => h.2⟩
    · simp only [decide_eq_false_iff_not] at g
      exact ⟨fun h => (by cases h), fun h => absurd h.1 g⟩
end Mo
end Go.Proofs.YtglidaifbpjpgaaDoor
