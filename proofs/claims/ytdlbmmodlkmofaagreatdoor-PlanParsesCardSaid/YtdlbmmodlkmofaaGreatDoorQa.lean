import Derived.Test.YtdlbmmodlkmofaaGreatDoorQ7
set_option maxRecDepth 20000
namespace Go.Proofs.YtdlbmmodlkmofaaGreatDoor
open Go Go.Vc Go.RowKit
/-! # what is parsed of a text, printed (plain) -/
theorem splitK_ne (k : Nat) (s : List UInt8) : ∃ y r, Lib.splitK [32] 0 k s = y :: r := by
  cases k with
  | zero => exact ⟨_, _, rfl⟩
  | succ k => unfold Lib.splitK; split <;> exact ⟨_, _, rfl⟩
theorem cut_at {s : List UInt8} {c : UInt8} {i : Nat} (h : s[i]? = some c) : s.take i ++ c :: s.drop (i + 1) = s := by
  have hlt := get_lt h
  rw [List.getElem?_eq_getElem hlt] at h
  have e : s.drop i = c :: s.drop (i + 1) := by rw [List.drop_eq_getElem_cons hlt, Option.some.inj h]
  rw [← e, List.take_append_drop]
theorem join_split : ∀ (k : Nat) (s : List UInt8), Lib.join (Lib.splitK [32] 0 k s) [32] = s
  | 0, s => Lib.join_one _ _
  | k + 1, s => by
    unfold Lib.splitK
    split
    · exact Lib.join_one _ _
    · rename_i h
      have hge := Lib.index_ge s [32]
      have hne : ¬ Lib.index s [32] = -1 := fun e => h (by rw [e]; rfl)
      obtain ⟨i, hi⟩ : ∃ i : Nat, Lib.index s [32] = i := ⟨(Lib.index s [32]).toNat, by omega⟩
      have hb := Lib.indexByte_some ((Lib.index_one s 32).symm.trans hi)
      rw [hi]
      obtain ⟨y, r, hy⟩ := splitK_ne k (s.drop (i + 1))
      have ih := join_split k (s.drop (i + 1))
      show Lib.join (s.take (i + 0) :: Lib.splitK [32] 0 k (s.drop (i + 1))) [32] = s
      rw [hy] at ih ⊢
      rw [join_two, ih, Nat.add_zero, cut_at hb.1]
theorem join_words (s : ByteArray) : joinW (wordsF s) = s.data.toList := by
  rw [joinW, wordsF, Lib.splitB_data]
  exact join_split _ _
theorem cut_text {s : ByteArray} (h : cutE s = true) : s.data.toList = (cutL s).data.toList ++ 10 :: (cutR s).data.toList := by
  unfold cutE Lib.cut at h
  by_cases h0 : 0 ≤ Lib.index s.data.toList [10]
  · obtain ⟨i, hi⟩ : ∃ i : Nat, Lib.index s.data.toList [10] = i := ⟨(Lib.index s.data.toList [10]).toNat, by omega⟩
    have hb := Lib.indexByte_some ((Lib.index_one s.data.toList 10).symm.trans hi)
    unfold cutL cutR Lib.cut
    rw [if_pos h0, hi]
    exact (cut_at hb.1).symm
  · rw [if_neg h0] at h; cases h
theorem dec_snoc : ∀ (l : List UInt8) (acc : Nat) (b : UInt8) (n : Nat), Lib.decFrom acc (l ++ [b]) = some n → ∃ v d, Lib.decFrom acc l = some v ∧ Lib.digitVal b = some d ∧ n = v * 10 + d
  | [], acc, b, n, h => by
    simp only [List.nil_append, Lib.decFrom] at h
    cases hd : Lib.digitVal b with
    | none => rw [hd] at h; cases h
    | some d => rw [hd] at h; exact ⟨acc, d, rfl, rfl, (Option.some.inj h).symm⟩
  | c :: l, acc, b, n, h => by
    simp only [List.cons_append, Lib.decFrom] at h ⊢
    cases hd : Lib.digitVal c with
    | none => rw [hd] at h; cases h
    | some d => rw [hd] at h; exact dec_snoc l _ b n h
theorem dig_back {b : UInt8} {d : Nat} (h : Lib.digitVal b = some d) : d < 10 ∧ b = UInt8.ofNat (48 + d) := by
  unfold Lib.digitVal at h
  split at h
  · cases h
    refine ⟨by omega, UInt8.toNat_inj.1 ?_⟩
    simp
    omega
  · cases h
theorem dec_canon : ∀ (k : Nat) (l : List UInt8) (n : Nat), l.length = k + 1 → Lib.decFrom 0 l = some n → (1 < l.length → l[0]? ≠ some 48) → Lib.decDigits n = l ∧ (l[0]? ≠ some 48 → 0 < n)
  | 0, [b], n, _, h, _ => by
    obtain ⟨v, d, hv, hd, rfl⟩ := dec_snoc [] 0 b n h
    obtain ⟨h10, hb⟩ := dig_back hd
    have hv0 : v = 0 := by cases hv; rfl
    subst hv0
    have e : 0 * 10 + d = d := by omega
    rw [e, Lib.decDigits, dif_pos h10, hb]
    refine ⟨rfl, fun hn => ?_⟩
    rcases Nat.eq_zero_or_pos d with rfl | h0
    · exact absurd rfl hn
    · exact h0
  | k + 1, l, n, hl, h, hz => by
    have hne : l ≠ [] := by rintro rfl; cases hl
    have e := List.dropLast_concat_getLast hne
    rw [← e] at h
    obtain ⟨v, d, hv, hd, rfl⟩ := dec_snoc _ _ _ _ h
    obtain ⟨h10, hb⟩ := dig_back hd
    have hll : l.dropLast.length = k + 1 := by simp; omega
    have h0 : l.dropLast[0]? = l[0]? := by
      conv => rhs; rw [← e]
      rw [List.getElem?_append_left (by omega)]
    have hz' := hz (by omega)
    obtain ⟨i1, i2⟩ := dec_canon k l.dropLast v hll hv fun _ => by rw [h0]; exact hz'
    have hv0 := i2 (by rw [h0]; exact hz')
    refine ⟨?_, fun _ => by omega⟩
    rw [Lib.decDigits, dif_neg (by omega), show (v * 10 + d) / 10 = v by omega, show (v * 10 + d) % 10 = d by omega, i1, ← hb]
    exact e
theorem numF_back {l : List UInt8} {n : Nat} (h : numF l = some n) : Lib.decDigits n = l := by
  unfold numF at h
  split at h
  · cases h
  · rename_i hb
    have hne : l ≠ [] := fun e => hb (.inl e)
    have hlen : 0 < l.length := List.length_pos_iff.2 hne
    exact (dec_canon (l.length - 1) l n (by omega) h fun h1 h2 => hb (.inr (.inr ⟨h1, h2⟩))).1
theorem nW_back {s : ByteArray} {n : Nat} (h : numF s.data.toList = some n) : nW (n : Int) = s := by
  rw [nW, show ((n : Nat) : Int).toNat = n from rfl, numF_back h, ba_back]
theorem wix_back : ∀ {l : List ByteArray} {s : ByteArray} {j k : Nat}, wix l s j = some k → j ≤ k ∧ l[k - j]? = some s
  | [], _, _, _, h => by simp [wix] at h
  | x :: xs, s, j, k, h => by
    rw [wix] at h
    split at h
    · rename_i hx
      split at h
      · cases h; exact ⟨Nat.le_refl _, by rw [Nat.sub_self, hx]; rfl⟩
      · cases h
    · obtain ⟨h1, h2⟩ := wix_back h
      refine ⟨by omega, ?_⟩
      rw [show k - j = (k - (j + 1)) + 1 by omega]
      exact h2
theorem wix_wd {l : List ByteArray} {s : ByteArray} {k : Nat} (h : wix l s 0 = some k) : wd l (k : Int) = s := by
  have h2 := (wix_back h).2
  rw [Nat.sub_zero] at h2
  rw [wd, show ((k : Nat) : Int).toNat = k from rfl, h2]; rfl
theorem wix_take {l : List ByteArray} {s : ByteArray} {k n : Nat} (h : wix (l.take n) s 0 = some k) : wd l (k : Int) = s := by
  have h2 := (wix_back h).2
  rw [Nat.sub_zero, List.getElem?_take] at h2
  split at h2
  · rw [wd, show ((k : Nat) : Int).toNat = k from rfl, h2]; rfl
  · cases h2
theorem four4 {α : Type} {l : List α} (h : l.length = 4) : ∃ a b c d, l = [a, b, c, d] := by
  match l, h with
  | [a, b, c, d], _ => exact ⟨a, b, c, d, rfl⟩
theorem three3 {α : Type} {l : List α} (h : l.length = 3) : ∃ a b c, l = [a, b, c] := by
  match l, h with
  | [a, b, c], _ => exact ⟨a, b, c, rfl⟩
theorem faultF_back {ws : List ByteArray} {f : T3} (h : faultF ws = some f) : lnF f = ws := by
  unfold faultF at h
  split at h
  · rename_i hc
    obtain ⟨a, b, c, d, rfl⟩ := four4 hc.1
    have w0 : a = wFaultW := hc.2
    split at h
    · rename_i x n k hx hn hk
      cases h
      have e1 : wd wOp (x : Int) = b := wix_wd hx
      have e2 : nW (n : Int) = c := nW_back hn
      have e3 : wd wFault (k : Int) = d := wix_wd hk
      show [bs [102, 97, 117, 108, 116], wd wOp (x : Int), nW (n : Int), wd wFault (k : Int)] = _
      rw [e1, e2, e3, w0]; rfl
    · cases h
  · cases h
theorem crashF_back {ws : List ByteArray} {f : Int × Int} (h : crashF ws = some f) : lnC ⟨f.1, f.2, []⟩ = ws := by
  unfold crashF at h
  split at h
  · rename_i hc
    obtain ⟨a, b, c, rfl⟩ := three3 hc.1
    have w0 : a = wCrashW := hc.2
    split at h
    · rename_i n k hn hk
      cases h
      have e2 : nW (n : Int) = b := nW_back hn
      have e3 : wd wFate (k : Int) = c := wix_take hk
      show [bs [99, 114, 97, 115, 104], nW (n : Int), wd wFate (k : Int)] = _
      rw [e2, e3, w0]; rfl
    · cases h
  · cases h
theorem pageF_back {ws : List ByteArray} {f : T3} (h : pageF ws = some f) : lnT f = ws := by
  unfold pageF at h
  split at h
  · rename_i hc
    have w0 := hc.2
    split at h
    · rename_i n k hn hk
      split at h
      · rename_i h3
        subst h3
        split at h
        · rename_i h4
          obtain ⟨a, b, c, d, rfl⟩ := four4 h4
          split at h
          · rename_i x hx
            cases h
            have e0 : a = wPageW := w0
            have e1 : nW (n : Int) = b := nW_back hn
            have e2 : wd wFate ((3 : Nat) : Int) = c := wix_wd hk
            have e3 : nW (x : Int) = d := nW_back hx
            show [bs [112, 97, 103, 101], nW (n : Int), wd wFate ((3 : Nat) : Int), nW (x : Int)] = _
            rw [e1, e2, e3, e0]; rfl
          · cases h
        · cases h
      · rename_i h3
        split at h
        · rename_i h4
          obtain ⟨a, b, c, rfl⟩ := three3 h4
          cases h
          have e0 : a = wPageW := w0
          have e1 : nW (n : Int) = b := nW_back hn
          have e2 : wd wFate ((k : Nat) : Int) = c := wix_wd hk
          rw [lnT, if_neg (by show ¬ ((k : Nat) : Int) = 3; omega), List.append_nil]
          show [bs [112, 97, 103, 101], nW (n : Int), wd wFate (k : Int)] = _
          rw [e1, e2, e0]; rfl
        · cases h
    · cases h
  · cases h
theorem read_text {fs : List T3} {cs : List Cr} {ws : List ByteArray} {p : List T3 × List Cr} (h : readF fs cs ws = some p) : planT p.1 p.2 = planT fs cs ++ lineOf ws := by
  unfold readF at h
  split at h
  · rename_i f hf
    split at h
    · rename_i h0
      have : cs = [] := List.eq_nil_of_length_eq_zero h0
      subst this
      cases h
      simp [planT, txF, txC, faultF_back hf]
    · cases h
  · split at h
    · rename_i k hk
      cases h
      have e := crashF_back hk
      have e' : lnC ⟨k.1, k.2, []⟩ = ws := e
      simp [planT, txC, txT, e']
    · split at h
      · rename_i t ht
        split at h
        · cases h
        · rename_i h0
          cases h
          have hne : cs ≠ [] := by rintro rfl; exact h0 rfl
          have e := List.dropLast_concat_getLast hne
          rw [← e, setLast_app]
          have e3 := pageF_back ht
          simp [planT, txC, txT, e3, lnC]
      · cases h
theorem pT_text : ∀ (m : Nat) (s : ByteArray) (fs : List T3) (cs : List Cr) (n : Nat) (p : List T3 × List Cr), s.size < m → pT m s fs cs n = .inr p → planT p.1 p.2 = planT fs cs ++ s.data.toList
  | 0, _, _, _, _, _, hm, _ => absurd hm (Nat.not_lt_zero _)
  | m + 1, s, fs, cs, n, p, hm, h => by
    rw [pT] at h
    split at h
    · rename_i h0
      cases h
      have : s.data.toList = [] := List.eq_nil_of_length_eq_zero (by rw [← s_size]; exact h0)
      rw [this, List.append_nil]
    · split at h
      · cases h
      · rename_i hc
        have hc : cutE s = true := by simpa using hc
        have hz := cut_sz hc
        split at h
        · cases h
        · rename_i q hq
          have ih := pT_text m (cutR s) q.1 q.2 (n + 1) p (by omega) h
          rw [ih, read_text hq, lineOf]
          have e : Lib.join ((wordsF (cutL s)).map (·.data.toList)) [32] = (cutL s).data.toList := join_words _
          rw [e, cut_text hc]; simp
theorem parse_text {g : Gm} {s : ByteArray} {l : Int} {fs : List T3} {cs : List Cr} (h : parseF g s = (0, l, fs, cs)) : chk g fs cs = 0 ∧ bs (planT fs cs) = s ∧ s.size ≤ 65536 := by
  unfold parseF at h
  split at h
  · rename_i hg
    have : gC g = 0 := congrArg (·.1) h
    exact absurd this hg
  · split at h
    · cases h
    · rename_i hs
      split at h
      · cases h
      · rename_i p hp
        split at h
        · rename_i hc
          have : chk g p.1 p.2 = 0 := congrArg (·.1) h
          exact absurd this hc
        · rename_i hc
          have e1 : p.1 = fs := congrArg (·.2.2.1) h
          have e2 : p.2 = cs := congrArg (·.2.2.2) h
          have ht := pT_text _ _ _ _ _ _ (Nat.lt_succ_self _) hp
          subst e1 e2
          refine ⟨Decidable.of_not_not hc, ?_, by omega⟩
          rw [ht]
          exact ba_back s
end Go.Proofs.YtdlbmmodlkmofaaGreatDoor
