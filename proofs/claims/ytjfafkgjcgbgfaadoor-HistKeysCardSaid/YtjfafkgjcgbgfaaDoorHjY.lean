import Derived.Test.YtjfafkgjcgbgfaaDoorHjX
set_option maxRecDepth 20000
namespace Go.Proofs.YtjfafkgjcgbgfaaDoor
open Go Go.Vc Go.RowKit
/-! # what is printed is read -/
section
variable {T : World → Prop}
theorem num (hT : ∀ w, T w → Tb w) {n : Int} (h0 : 0 ≤ n) (h1 : n < 1000000000000000000) : Num T (nW n) n :=
  ⟨nW_size h1, by
    have := atoi_dec n.toNat
    rw [Int.toNat_of_nonneg h0] at this
    simpa [nW] using this, h0, fun w' t => (itoa45 (hT w' t) h0 h1).mono fun e w'' ⟨v, h2, h3, h4⟩ => ⟨by rw [h2, h3], h4⟩⟩
theorem isHex (b : ByteArray) : IsHex (hexW b) b.data.toList := by
  unfold hexW
  by_cases h : b.data.toList = []
  · rw [if_pos h]; exact .inl ⟨rfl, h⟩
  · rw [if_neg h]; exact .inr ⟨h, rfl⟩
theorem empty_of {b : ByteArray} (h : b.toList = e0.toList) : b = e0 := by
  rw [ByteArray.toList_eq, ByteArray.toList_eq] at h
  exact ba_of h
theorem lineIs (hT : ∀ w, T w → Tb w) {m : Mv} (hA : Alone m) (hk : m.key.size ≤ 1048576) (hv : m.val.size ≤ 1048576) : LineIs T m (wordsOf m) := by
  have hf := hA.f0
  have ht := hA.to
  rw [s_size] at hk hv
  refine ⟨⟨nW m.life, nW m.frm, toW m, wkOf m, wvOf m, weOf m, rfl, num hT hA.l0 hA.b2, num hT hA.f0 hA.b3, ?_, ?_, ?_, ?_⟩, hA.k1, hA.k2⟩
  · by_cases h : m.to < 0
    · exact .inl ⟨by omega, by unfold toW; rw [if_pos h]⟩
    · exact .inr ⟨by omega, by unfold toW; rw [if_neg h]; exact num hT (by omega) hA.b4⟩
  · by_cases h : m.kind ≤ 3
    · exact .inl ⟨h, _, by unfold wkOf; rw [if_pos h], isHex _, by omega⟩
    · exact .inr ⟨by omega, by unfold wkOf; rw [if_neg h], empty_of (hA.ky.resolve_left h)⟩
  · by_cases h : m.kind = 2
    · exact .inl ⟨h, _, by unfold wvOf; rw [if_pos h], isHex _, by omega⟩
    · refine .inr ⟨h, by unfold wvOf; rw [if_neg h], fun hh => ?_⟩
      rcases hA.vl with h1 | h1 | h1
      · exact empty_of h1
      · exact absurd h1 h
      · rw [hh] at h1; cases h1
  · by_cases h : m.to < 0
    · refine .inr ⟨by omega, by unfold weOf; rw [if_pos h], ?_⟩
      rcases hA.bk with h1 | h1
      · omega
      · exact h1
    · refine .inl ⟨by omega, ?_⟩
      unfold weOf
      rw [if_neg h]
      by_cases h1 : m.err = 0
      · rw [if_neg (by simp [h1])]
        by_cases h2 : m.kind = 1
        · rw [if_neg (by simp [h2])]
          by_cases h3 : m.hit = true
          · rw [if_pos h3]; exact .hit _ h2 h1 h3 (isHex _) (by omega)
          · rw [if_neg h3]; exact .miss h2 h1 (by simpa using h3)
        · rw [if_pos h2]
          refine .ok h2 h1 ?_
          cases h3 : m.hit
          · rfl
          · exact absurd (hA.ht h3).1 h2
      · rw [if_pos h1]
        refine .err _ (num hT hA.er hA.b1) h1 ?_
        cases h3 : m.hit
        · rfl
        · exact absurd (hA.ht h3).2 h1
theorem textIs (hT : ∀ w, T w → Tb w) : ∀ ms : List Mv, (∀ m ∈ ms, Alone m) → Small ms → (textT ms).length ≤ 65536 → TextIs T ⟨(textT ms).toArray⟩ ms
  | [], _, _, _ => .nil
  | m :: r, hA, hs, hl => by
    have e : textT (m :: r) = lineT m ++ 10 :: textT r := by simp [textT]
    rw [e] at hl ⊢
    have hl' := hl
    rw [List.length_append, List.length_cons] at hl'
    obtain ⟨h1, h2⟩ := split_words (wordsOf m) (by simp [wordsOf]) (wd_words m) ⟨(lineT m).toArray⟩ (by simp [lineT])
    obtain ⟨z1, z2⟩ := hs m (List.mem_cons_self ..)
    refine .cons _ ⟨(lineT m).toArray⟩ ⟨(textT r).toArray⟩ (wordsOf m) m r (by rw [ba_size]; omega) (by simp) ?_ ⟨by rw [ba_size]; omega, ?_, h1⟩ (lineIs hT (hA m (List.mem_cons_self ..)) z1 z2) (textIs hT r (fun x hx => hA x (List.mem_cons_of_mem _ hx)) (fun x hx => hs x (List.mem_cons_of_mem _ hx)) (by omega))
    · exact cut_line (wd_join _ (wd_words m))
    · rw [show Lib.countB (⟨(lineT m).toArray⟩ : ByteArray) ⟨#[32]⟩ = (wordsOf m).length - 1 by omega]; exact h2
end
theorem prints8 {w : World} {q : Option Addr} {l c : Nat} {ms : List Mv} (hS : w.ShapedOpen Tryd.prog) (hT : Tb w) (H : RE En.mv w q l ms) (hs : Small ms) (hl : l ≤ 1048576) :
    Calls Tryd.prog 8 #[.slice q l c] w (Ret fun v w' => v = .bool true ∧ Chg none_ w w') := by
  have hSt : ∀ {w' : World}, Chg none_ w w' → w'.ShapedOpen Tryd.prog := fun h => World.ShapedOpen.keptBut hS (h.below.frame (fun _ => False)) (fun _ h => h.elim)
  have hK : Stays w.heap.size (Chg none_ w) := fun {S a b} k hS t => t.up k hS
  refine f8.calls _ _ _ ?_
  unfold f8.wp
  refine Calls.use (awake10 hS) ?_
  rintro _ w1 ⟨rfl, k1⟩
  refine ⟨_, rfl, bcF rfl (Calls.use (copied11 (H.chg k1) (by omega)) ?_)⟩
  rintro _ w2 ⟨q1, c1, rfl, S2, k2⟩
  have k12 := k1.trans k2
  refine ⟨_, _, _, rfl, Calls.use (print20 (hT.chg k12) S2.re hs) ?_⟩
  rintro _ w3 ⟨s, e, rfl, h3, k3⟩
  have k13 := k12.trans k3
  refine ⟨_, _, rfl, Calls.use (print21 (H.chg k13) hs) ?_⟩
  rintro _ w4 ⟨s', e', rfl, h4, k4⟩
  obtain ⟨rfl, rfl⟩ := h3.both h4
  have k14 := k13.trans k4
  refine ⟨_, _, rfl, bcF (by simp) (bcF (by simp) (bc (fun g => ⟨rfl, k14⟩) fun g => ?_))⟩
  have he : e = 0 := by simpa using g
  subst he
  rcases h3 with ⟨_, _, h, _⟩ | ⟨hck, hlen, rfl, _⟩ | ⟨_, _, _, h⟩
  · exact absurd rfl h
  · have hA := (oks_pair.1 hck.alive.2).1
    refine Calls.use (parse22 (T := Chg none_ w) hK (fun _ h => hSt h) (textIs (fun _ k => hT.chg k) ms hA hs hlen) (by rw [ba_size]; exact hlen) hck k14.size k14) ?_
    rintro _ w5 ⟨q2, c2, rfl, S5, k5⟩
    have k15 := k14.trans k5
    have hml : ms.length = l := H.len
    refine ⟨_, _, _, _, _, rfl, Calls.use (same14 S5.re (H.chg k15) (by omega)) ?_⟩
    rintro _ w6 ⟨b, rfl, hb, k6⟩
    exact ⟨b, rfl, bcT (hb rfl) (bcT rfl ⟨rfl, k15.trans k6⟩)⟩
  · cases h
end Go.Proofs.YtjfafkgjcgbgfaaDoor
