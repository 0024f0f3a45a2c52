import Derived.Test.YtdlbmmodlkmofaaDoorPl9
import Derived.Test.YtdlbmmodlkmofaaDoorPlY
set_option maxRecDepth 20000
namespace Go.Proofs.YtdlbmmodlkmofaaDoor
open Go Go.Vc Go.RowKit
/-! # of those that are alike the first one: seen from the last one kept -/
section
variable {α : Type} {lt : α → α → Bool}
theorem Weak.alk_symm (a b : α) : alk lt a b = alk lt b a := by simp only [alk, Bool.and_comm]
theorem Weak.alk_tr (W : Weak lt) {a b c : α} (h : alk lt a b = true) (k : alk lt b c = true) : alk lt a c = true := by
  simp only [alk, Bool.and_eq_true, Bool.not_eq_true'] at *
  exact ⟨W.tr _ _ _ h.1 k.1, W.tr _ _ _ k.2 h.2⟩
theorem dd_last (W : Weak lt) {xs : List α} : ∀ {k : Nat} {u : α}, xs[k]? = some u → 0 < (dd lt (xs.take (k + 1))).length ∧ ∃ v, (dd lt (xs.take (k + 1)))[(dd lt (xs.take (k + 1))).length - 1]? = some v ∧ alk lt u v = true
  | 0, u, h => by
    have : xs.take (0 + 1) = [u] := by rw [take_snoc h]; rfl
    rw [this]
    exact ⟨Nat.one_pos, u, rfl, W.self u⟩
  | k + 1, y, h => by
    obtain ⟨u, hu⟩ := get_ex (l := xs) (i := k) (by have := get_lt h; omega)
    obtain ⟨h0, v, hv, ha⟩ := dd_last W hu
    rw [take_step (lt := lt) (k := k + 1) hu h (by omega)]
    cases e : alk lt y u with
    | true => rw [if_pos rfl, List.append_nil]; exact ⟨h0, v, hv, W.alk_tr e ha⟩
    | false =>
      rw [if_neg (by simp), List.length_append]
      refine ⟨by simp, y, ?_, W.self y⟩
      rw [List.getElem?_append_right (by simp)]
      simp
theorem dd_next (W : Weak lt) {xs : List α} {k : Nat} {y v : α} (hy : xs[k]? = some y) (hk : 0 < k) (hv : (dd lt (xs.take k))[(dd lt (xs.take k)).length - 1]? = some v) : dd lt (xs.take (k + 1)) = dd lt (xs.take k) ++ if alk lt y v then [] else [y] := by
  obtain ⟨m, rfl⟩ : ∃ m, k = m + 1 := ⟨k - 1, by omega⟩
  obtain ⟨u, hu⟩ := get_ex (l := xs) (i := m) (by have := get_lt hy; omega)
  obtain ⟨_, v', hv', ha⟩ := dd_last W hu
  rw [hv] at hv'; cases hv'
  rw [take_step (lt := lt) (k := m + 1) hu hy (by omega)]
  have : alk lt y u = alk lt y v := by
    rw [Bool.eq_iff_iff]
    exact ⟨fun h => W.alk_tr h ha, fun h => W.alk_tr h (by rw [Weak.alk_symm]; exact ha)⟩
  rw [this]
theorem dd_first {xs : List α} {y : α} (hy : xs[0]? = some y) : dd lt (xs.take (0 + 1)) = [y] := by rw [take_snoc hy]; rfl
theorem dd_pos (W : Weak lt) {xs : List α} {k : Nat} (hk : k ≤ xs.length) (h : (dd lt (xs.take k)).length = 0) : k = 0 := by
  cases k with
  | zero => rfl
  | succ k =>
    obtain ⟨u, hu⟩ := get_ex (l := xs) (i := k) (by omega)
    have := (dd_last W hu).1
    omega
end
theorem fAlk (y v : T3) : alk fLt y v = (v.1 == y.1 && v.2.1 == y.2.1) := by
  rw [Bool.eq_iff_iff]
  simp only [alk, Bool.and_eq_true, Bool.not_eq_true', ← Bool.not_eq_true, fLt_iff, beq_iff_eq]
  omega
theorem tAlk (y v : T3) : alk tLt y v = (v.1 == y.1) := by
  rw [Bool.eq_iff_iff]
  simp only [alk, Bool.and_eq_true, Bool.not_eq_true', ← Bool.not_eq_true, tLt_iff, beq_iff_eq]
  omega
theorem bne_val (a b : Int) : (a != b) = !(a == b) := rfl
/-- crashes, their heads, and how the heads are read -/
theorem heads {w : World} {q : Option Addr} {l : Nat} {cs : List Cr} (h : CrsR w q l cs) : ∃ (hs : List CrH) (F : CrH → Cr), RE En.crh w q l hs ∧ hs.length = cs.length ∧ (∀ h, (F h).step = h.step ∧ (F h).rest = h.rest) ∧ hs.map F = cs ∧ ∀ x ∈ hs, RE En.t3 w x.q x.l (F x).fates ∧ x.l * 24 ≤ 140737488351232 ∧ x.l ≤ x.c := by
  obtain ⟨hs, hh1, hh2, hh3⟩ := h.ex
  obtain ⟨F, hF⟩ := crF w
  refine ⟨hs, F, hh1, hh2, fun h => ⟨(hF h).1, (hF h).2.1⟩, ?_, fun x hx => ?_⟩
  · apply List.ext_getElem?
    intro j
    rw [List.getElem?_map]
    cases hx : hs[j]? with
    | none => rw [List.getElem?_eq_none (by have := List.getElem?_eq_none_iff.1 hx; omega)]; rfl
    | some x =>
      obtain ⟨f, hf⟩ := get_ex (l := cs) (i := j) (by have := get_lt hx; omega)
      obtain ⟨e1, e2, hfa, _⟩ := hh3 j x f hx hf
      obtain ⟨a1, a2, a3⟩ := hF x
      rw [hf, Option.map_some]
      have e3 := a3 _ hfa
      cases f with
      | mk s r fa =>
        generalize hy : F x = y at *
        cases y with
        | mk s' r' fa' => simp_all
  · obtain ⟨j, hj⟩ := List.getElem?_of_mem hx
    obtain ⟨f, hf⟩ := get_ex (l := cs) (i := j) (by have := get_lt hj; omega)
    obtain ⟨_, _, hfa, hub, huc⟩ := hh3 j x f hj hf
    rw [(hF x).2.2 _ hfa]
    exact ⟨hfa, hub, huc⟩
theorem norm31 {w : World} {q1 q2 : Option Addr} {l1 c1 l2 c2 : Nat} {fs : List T3} {cs : List Cr} (h1 : RE En.t3 w q1 l1 fs) (h2 : CrsR w q2 l2 cs) (hl1 : l1 * 24 ≤ 140737488351232) (hl2 : l2 * 40 ≤ 140737488351232) :
    Calls Tryd.prog 31 #[.agg #[.slice q1 l1 c1, .slice q2 l2 c2]] w (Ret fun v w' => ∃ q3 l3 c3 q4 c4, v = .agg #[.slice q3 l3 c3, .slice q4 l2 c4] ∧ SE En.t3 w' w.heap.size 37 q3 l3 c3 (normF fs) ∧ CrsO w' w.heap.size q4 l2 c4 (normC cs) ∧ Chg none_ w w') := by
  obtain ⟨hs, F, hh1, hh2, hF, hmap, hread⟩ := heads h2
  have hhl := hh1.len
  have hfl := h1.len
  refine f31.calls _ _ _ _ _ _ ?_
  unfold f31.wp
  refine newBox fun w1 B1 k1 z1 => newBox fun w2 B2 k2 z2 => newBox fun w3 B3 k3 z3 => ?_
  have k03 := (k1.trans k2).trans k3
  have A3 := (k2.trans k3).blk B1 (fun x => x)
  have R3 := k3.blk B2 (fun x => x)
  refine ⟨_, _, _, (A3.cell 0).trans rfl, Calls.use (rsort64 (h1.chg k03) hl1) ?_⟩
  rintro _ w4 ⟨q3, c3, rfl, S4, k4⟩
  obtain ⟨so, hso⟩ : ∃ s, s = sortOf fLt fs := ⟨_, rfl⟩
  rw [← hso] at S4
  have hsl := S4.len
  have z4 := k4.size
  have k04 := k03.trans k4
  refine ⟨q3, l1, c3, rfl, fun x w' => ∃ (i n : Nat) (q : Option Addr) (c : Nat), x = (i : Int) ∧ i ≤ l1 ∧ n ≤ i ∧ Blk w' w.heap.size 28 #[.slice q1 l1 c1, .slice q2 l2 c2] ∧ Blk w' w1.heap.size 28 #[.slice none 0 0, .slice none 0 0] ∧ Blk w' w2.heap.size 28 #[.slice q n c, .slice none 0 0] ∧ SE En.t3 w' w3.heap.size 37 q3 l1 c3 so ∧ SE En.t3 w' w4.heap.size 37 q n c (dd fLt (so.take i)) ∧ Chg none_ w w' ∧ w4.heap.size ≤ w'.heap.size, fun x _ => l1 - x.toNat,
    ⟨0, 0, none, 0, rfl, Nat.zero_le _, Nat.le_refl _, k4.blk A3 (fun x => x), k4.blk R3 (fun x => x), k4.blk B3 (fun x => x), S4, by rw [List.take_zero]; exact SE.nil _ _ _ _, k04, Nat.le_refl _⟩, ?_⟩
  rintro _ w5 ⟨i, n, q, c, rfl, hi, hn, A5, R5, O5, S5, N5, k5, z5⟩
  refine bc (fun g => ?_) fun g => ?_
  · have g : i < l1 := by have := of_decide_eq_true g; omega
    obtain ⟨y, hy⟩ := get_ex (l := so) (i := i) (by omega)
    obtain ⟨p, hp⟩ : ∃ p, q3 = some p := by obtain ⟨a, _, ha, _⟩ := S5.re.ex (i := 0) (by omega); exact ⟨a, ha⟩
    subst hp
    obtain ⟨ry, by1, by2⟩ := rdAt S5 hy
    have ew : IntKind.wrap .i64 ((i : Int) + 1) = ((i + 1 : Nat) : Int) := by rw [wrapS (by omega) (by omega)]; omega
    rw [ew]
    have nl := N5.len
    have wl := O5.lt
    refine onPtr_mk ⟨by1, by2, _, _, _, ry, boxed rfl rfl fun w7 B7 k7 z7 => ⟨q, n, c, ((k7.blk O5 (fun x => x)).cell 0).trans rfl, fun b w' => w' = w7.drew ∧ dd fLt (so.take (i + 1)) = dd fLt (so.take i) ++ if b then [y] else [], ?_, ?_⟩⟩
    · rintro b _ ⟨rfl, hb⟩
      have k7d := k7.drew
      have B7d := B7.drew
      have z7d : w7.drew.heap.size = w5.heap.size + 1 := z7
      generalize w7.drew = W at *
      have A7 := k7d.blk A5 (fun x => x)
      have R7 := k7d.blk R5 (fun x => x)
      have O7 := k7d.blk O5 (fun x => x)
      have S7 := S5.chgN k7d
      have N7 := N5.chgN k7d
      refine bc (fun h => ?_) fun h => ?_
      · subst h
        rw [if_pos rfl] at hb
        refine ⟨q, n, c, (O7.cell 0).trans rfl, _, _, _, B7d.reads0, newBox fun w9 B9 k9 z9 => ?_⟩
        obtain ⟨q7, c7, w10, hrun, N10, k10, _, _⟩ := (N7.chgN k9).append1 (t := 25) (ty := 25) (x := y) elemFault B9 (by simp only [maxLen]; omega) (by omega) (by have := k9.size; omega)
        have z10 := k10.size
        have far : ∀ {b' : Nat} {t' : TypeId} {cs' : Array Value}, t' ≠ 37 → Blk W b' t' cs' → Blk w10 b' t' cs' := fun ht hB => k10.blk (k9.blk hB (fun x => x)) fun e => SE.ne (N7.chgN k9) (k9.blk hB (fun x => x)) ht _ e.symm rfl
        have O10 := far (by decide) O7
        refine ⟨q7, n + 1, c7, w10, hrun, O10.canStore (by simp), fun w11 e11 => ?_⟩
        have k11 : Chg (fun k => k = w2.heap.size) w10 w11 := (Chg.refl _ w10).sets' e11 (.inl rfl)
        have hw24 : w2.heap.size < w4.heap.size := by omega
        refine ⟨⟨i + 1, n + 1, q7, c7, rfl, g, by omega, k11.blk (far (by decide) A7) (by omega), k11.blk (far (by decide) R7) (by omega), (O10.put0 e11).1, ?_, ?_, ?_, ?_⟩, by simp only [Int.toNat_natCast]; omega⟩
        · have := (S7.chgN k9).chg k10 fun g hg hk => by have := (S4.lt hg).1; have := (N5.lt hk.symm).2; omega
          exact this.chg k11 fun g hg hk => SE.ne this O10 (by decide) g hg hk
        · rw [hb]
          exact N10.chg k11 fun g hg hk => by have := (N10.lt hg).2; omega
        · exact (((k5.trans k7d).trans k9).up k10 fun k hk => by have := (N5.lt hk.symm).2; have := k04.size; omega).up k11 fun k hk => by omega
        · have := k9.size; have := k11.size; omega
      · subst h
        rw [if_neg (by simp), List.append_nil] at hb
        exact ⟨⟨i + 1, n, q, c, rfl, g, by omega, A7, R7, O7, S7, by rw [hb]; exact N7, k5.trans k7d, by omega⟩, by simp only [Int.toNat_natCast]; omega⟩
    · have O7 := (k7.drew).blk O5 (fun x => x)
      have B7d := B7.drew
      have N7 := N5.chgN k7.drew
      refine bc (fun h => ?_) fun h => ?_
      · have h : n = 0 := by have := eq_of_beq h; omega
        have hi0 : i = 0 := dd_pos fW (xs := so) (by omega) (by rw [nl]; exact h)
        subst hi0
        exact ⟨rfl, by rw [dd_first hy, List.take_zero]; rfl⟩
      · have h : 0 < n := by rcases Nat.eq_zero_or_pos n with e | e; · subst e; simp at h
                             exact e
        obtain ⟨v, hv⟩ := get_ex (l := dd fLt (so.take i)) (i := n - 1) (by omega)
        have hnx := dd_next fW hy (by omega) (v := v) (by rw [nl]; exact hv)
        rw [fAlk] at hnx
        have en : IntKind.wrap .i64 ((n : Int) - 1) = ((n - 1 : Nat) : Int) := by rw [wrapS (by omega) (by omega)]; omega
        rw [en]
        obtain ⟨p2, hp2⟩ : ∃ p, q = some p := by obtain ⟨a, _, ha, _⟩ := N5.re.ex (i := 0) (by omega); exact ⟨a, ha⟩
        subst hp2
        obtain ⟨rv, bv1, bv2⟩ := rdAt N7 hv
        have c0 := reads_at rv (i := 0) rfl
        rw [add_zero'] at c0
        refine ⟨_, _, _, (O7.cell 0).trans rfl, onPtr_mk ⟨bv1, bv2, _, c0, _, (B7d.cell 0).trans rfl, bc (fun h1 => ⟨rfl, ?_⟩) fun h1 => ⟨_, _, _, (O7.cell 0).trans rfl, onPtr_mk ⟨bv1, bv2, _, reads_at rv (i := 1) rfl, _, (B7d.cell0 1).trans rfl, rfl, ?_⟩⟩⟩⟩
        · rw [hnx]
          rw [bne_val, Bool.not_eq_true'] at h1
          rw [h1]; rfl
        · rw [hnx]
          rw [bne_val, Bool.not_eq_false'] at h1
          rw [h1, bne_val, Bool.true_and]
          cases v.2.1 == y.2.1 <;> rfl
  have hil : i = l1 := by have := of_decide_eq_false g; omega
  subst hil
  clear g hi
  have hall : so.take i = so := List.take_of_length_le (by omega)
  have eN : dd fLt so = normF fs := by rw [hso]; rfl
  rw [hall, eN] at N5
  clear S5
  obtain ⟨base, hbase⟩ : ∃ b, b = w5.heap.size := ⟨_, rfl⟩
  refine newBox fun w12 B12 k12 z12 => ?_
  have A12 := k12.blk A5 (fun x => x)
  have S12 : SE En.crh w12 base 42 (some ⟨w5.heap.size, 0, none⟩) 0 0 [] := SE.lit B12 (Nat.le_of_eq hbase) (fun n v hv => by simp [En.flat] at hv) rfl (Nat.le_refl _) (by decide) (by simp)
  have k05 := k5
  obtain ⟨q9, c9, w13, hrun9, S2, k13, _, _, _, _⟩ := S12.append (t := 26) (ty := 26) (c2 := c2) elemCrash (hh1.chg (k05.trans k12)) (by simp only [maxLen]; omega) (by omega) (by omega)
  simp only [Nat.zero_add, List.nil_append] at S2 hrun9
  have k513 : Chg (fun k => base ≤ k) w5 w13 := (k12.of_none _).trans (k13.mono fun k _ hk => by simp [qB] at hk; omega)
  refine ⟨_, _, _, (A12.cell0 1).trans rfl, q9, l2, c9, w13, hrun9, fun x w' => ∃ (k : Nat) (Y : List CrH), x = (k : Int) ∧ 1 ≤ k ∧ (k ≤ l2 ∨ k = 1) ∧ SE En.crh w' base 42 q9 l2 c9 (Y ++ hs.drop k) ∧ Srt cLt Y ∧ Same cLt (hs.take k) Y ∧ Y.length = (hs.take k).length ∧ Chg (fun k => base ≤ k) w5 w', fun x _ => l2 - x.toNat, ⟨1, hs.take 1, rfl, Nat.le_refl _, .inr rfl, ?_, ?_, Same.refl _, rfl, k513⟩, ?_⟩
  · rw [List.take_append_drop]; exact S2
  · cases hs with
    | nil => exact Srt.nil
    | cons x r => exact Srt.one x
  rintro _ w3 ⟨k, Y, rfl, hk1, hk, S3, sY, eY, lY, k3⟩
  refine bc (fun g => ?_) fun g => ?_
  · have g : k < l2 := by have := of_decide_eq_true g; omega
    obtain ⟨z, hz⟩ := get_ex (l := hs) (i := k) (by omega)
    have lY' : Y.length = k := by rw [lY, List.length_take]; omega
    rw [drop_cons hz] at S3
    have fin : ∀ {w' : World} {A B : List CrH}, SE En.crh w' base 42 q9 l2 c9 (A ++ z :: (B ++ hs.drop (k + 1))) → A ++ B = Y → (∀ x ∈ B, cLt z x = true) → (∀ x ∈ A, cLt z x = false) → Chg (fun k => base ≤ k) w5 w' →
        (∃ (k' : Nat) (Y : List CrH), IntKind.wrap .i64 ((k : Int) + 1) = (k' : Int) ∧ 1 ≤ k' ∧ (k' ≤ l2 ∨ k' = 1) ∧ SE En.crh w' base 42 q9 l2 c9 (Y ++ hs.drop k') ∧ Srt cLt Y ∧ Same cLt (hs.take k') Y ∧ Y.length = (hs.take k').length ∧ Chg (fun k => base ≤ k) w5 w') ∧ l2 - (IntKind.wrap .i64 ((k : Int) + 1)).toNat < l2 - ((k : Nat) : Int).toNat := fun {w' A B} S' hAB hB hA k' => by
      have ew : IntKind.wrap .i64 ((k : Int) + 1) = ((k + 1 : Nat) : Int) := by rw [wrapS (by omega) (by omega)]; omega
      rw [ew]
      obtain ⟨s1, s2⟩ := ins_ok cW (X := hs.take k) (A := A) (B := B) (z := z) (by rw [hAB]; exact sY) (by rw [hAB]; exact eY) hB hA
      have e0 := congrArg List.length hAB
      simp only [List.length_append] at e0
      refine ⟨⟨k + 1, A ++ z :: B, rfl, by omega, .inl (by omega), by simpa using S', s1, by rw [take_snoc hz]; exact s2, ?_, k'⟩, by simp only [Int.toNat_natCast]; omega⟩
      simp only [List.length_append, List.length_cons, List.length_take]; omega
    refine ⟨fun x w' => ∃ A B : List CrH, x = (A.length : Int) ∧ SE En.crh w' base 42 q9 l2 c9 (A ++ z :: (B ++ hs.drop (k + 1))) ∧ A ++ B = Y ∧ (∀ x ∈ B, cLt z x = true) ∧ Chg (fun k => base ≤ k) w5 w', fun x _ => x.toNat, ⟨Y, [], by rw [lY'], S3, by simp, fun x hx => by simp at hx, k3⟩, ?_⟩
    rintro _ w4 ⟨A, B, rfl, S4, hAB, hB, k4⟩
    have S4d := S4.drew
    have k4d : Chg (fun k => base ≤ k) w5 w4.drew := k4.drew
    have l4 := S4.len
    simp only [List.length_append, List.length_cons, List.length_drop] at l4
    have parts : ∀ {A' : List CrH} {u : CrH}, A = A' ++ [u] → ∃ p, q9 = some p ∧ ((A.length : Nat) : Int) = ((A'.length + 1 : Nat) : Int) ∧ IntKind.wrap .i64 (((A'.length + 1 : Nat) : Int) - 1) = ((A'.length : Nat) : Int) ∧ reads w4.drew (p.add ((A'.length + 1) * 3)) (En.crh.enc z) ∧ reads w4.drew (p.add (A'.length * 3)) (En.crh.enc u) ∧ A'.length + 1 < l2 ∧
        (A ++ z :: (B ++ hs.drop (k + 1)))[A'.length + 1]? = some z ∧ (A ++ z :: (B ++ hs.drop (k + 1)))[A'.length]? = some u := fun {A' u} hA => by
      subst hA
      have lA : (A' ++ [u]).length = A'.length + 1 := by simp
      rw [lA] at l4
      obtain ⟨p, hp⟩ : ∃ p, q9 = some p := by obtain ⟨a, _, ha, _⟩ := S4.re.ex (i := 0) (by omega); exact ⟨a, ha⟩
      have gz : ((A' ++ [u]) ++ z :: (B ++ hs.drop (k + 1)))[A'.length + 1]? = some z := get_mid (by simp)
      have gu : ((A' ++ [u]) ++ z :: (B ++ hs.drop (k + 1)))[A'.length]? = some u := by
        rw [List.append_assoc]; exact get_mid rfl
      subst hp
      exact ⟨p, rfl, by rw [lA], by rw [wrapS (by omega) (by omega)]; omega, (rdAt S4d gz).1, (rdAt S4d gu).1, by omega, gz, gu⟩
    have swapped : ∀ {A' : List CrH} {u : CrH} {w' : World}, A = A' ++ [u] → cLt z u = true → SE En.crh w' base 42 q9 l2 c9 (sw (A ++ z :: (B ++ hs.drop (k + 1))) (A'.length + 1) A'.length z u) → Chg (fun k => base ≤ k) w5 w' →
        (∃ A B : List CrH, ((A'.length : Nat) : Int) = (A.length : Int) ∧ SE En.crh w' base 42 q9 l2 c9 (A ++ z :: (B ++ hs.drop (k + 1))) ∧ A ++ B = Y ∧ (∀ x ∈ B, cLt z x = true) ∧ Chg (fun k => base ≤ k) w5 w') ∧ ((A'.length : Nat) : Int).toNat < ((A'.length + 1 : Nat) : Int).toNat := fun {A' u w'} hA hlt S' k' => by
      subst hA
      have e : (A' ++ [u]) ++ z :: (B ++ hs.drop (k + 1)) = A' ++ u :: ([] ++ z :: (B ++ hs.drop (k + 1))) := by simp
      rw [e, sw_mid' rfl (by simp)] at S'
      refine ⟨⟨A', u :: B, rfl, by simpa using S', by rw [← hAB]; simp, fun x hx => ?_, k'⟩, by simp only [Int.toNat_natCast]; omega⟩
      rcases List.mem_cons.1 hx with rfl | hx
      · exact hlt
      · exact hB x hx
    have stop : ∀ {A' : List CrH} {u : CrH}, A = A' ++ [u] → cLt z u = false → _ := fun {A' u} hA hge => fin (A := A) (B := B) S4d hAB hB (by subst hA; exact last_ok cW (Srt.left (B := B) (by rw [hAB]; exact sY)) hge) k4d
    have empty : A = [] → _ := fun hA => fin (A := A) (B := B) S4d hAB hB (fun x hx => by rw [hA] at hx; simp at hx) k4d
    have last : 0 < A.length → ∃ A' u, A = A' ++ [u] := fun g1 => ⟨A.dropLast, A.getLast (List.length_pos_iff.1 g1), (List.dropLast_concat_getLast _).symm⟩
    refine bc (fun g1 => ?_) fun g1 => empty (by have h0 : ¬ ((A.length : Int) > 0) := of_decide_eq_false g1; exact List.eq_nil_of_length_eq_zero (by omega))
    obtain ⟨A', u, hA⟩ := last (by have := of_decide_eq_true g1; omega)
    obtain ⟨p, hp, eA, ej, rz, ru, hlt', gz, gu⟩ := parts hA
    have eq1 := hp
    subst hp
    rw [eA, ej]
    have cz0 := reads_at rz (i := 0) rfl
    have cu0 := reads_at ru (i := 0) rfl
    rw [add_zero'] at cz0 cu0
    have b1 : 0 ≤ ((A'.length : Nat) : Int) ∧ ((A'.length : Nat) : Int) < ((l2 : Nat) : Int) := by omega
    have b2 : 0 ≤ ((A'.length + 1 : Nat) : Int) ∧ ((A'.length + 1 : Nat) : Int) < ((l2 : Nat) : Int) := by omega
    refine onPtr_mk ⟨b1.1, b1.2, _, cu0, onPtr_mk ⟨b2.1, b2.2, _, cz0, bc (fun g2 => ?_) fun g2 => stop hA ?_⟩⟩
    · have hlt : cLt z u = true := (cLt_iff z u).2 (of_decide_eq_true g2)
      refine swapCrH S4d.drew (i := A'.length + 1) (j := A'.length) (x := z) (y := u) rfl rfl gz gu fun w' S' k' => swapped hA hlt S' (k4d.trans (Chg.of_drew (k'.mono fun k _ hk => (S4d.drew.lt hk.symm).2)))
    · have h2 := of_decide_eq_false g2
      rw [← Bool.not_eq_true, cLt_iff]
      exact h2
  have hkl : l2 ≤ k := by have := of_decide_eq_false g; omega
  have e1 : hs.take k = hs := List.take_of_length_le (by omega)
  have e2 : hs.drop k = [] := List.drop_eq_nil_of_le (by omega)
  rw [e1] at eY
  rw [e2, List.append_nil] at S3
  obtain ⟨ys, hys⟩ : ∃ ys, ys = Y := ⟨_, rfl⟩
  rw [← hys] at sY eY S3
  clear e1 e2 hkl g lY hys
  have ylen : ys.length = l2 := S3.len
  have ec : normC cs = ys.map fun x => normK (F x) := by
    unfold normC
    rw [← hmap, ← sort_heads (fun h => (hF h).1) sY eY, List.map_map]
    rfl
  have hyread : ∀ x ∈ ys, RE En.t3 w x.q x.l (F x).fates ∧ x.l * 24 ≤ 140737488351232 ∧ x.l ≤ x.c := fun x hx => hread x (eY.mem cW hx)
  have k03' : Chg none_ w w3 := k05.up k3 fun k hk => by have := k05.size; omega
  have z3' := k3.size
  have up3 : ∀ {b' : Nat} {t' : TypeId} {cs' : Array Value}, Blk w5 b' t' cs' → Blk w3 b' t' cs' := fun hB => k3.blk hB (by have := hB.lt; omega)
  have R3' := up3 R5
  have O3' := up3 O5
  have N3 : SE En.t3 w3 w4.heap.size 37 q n c (normF fs) := N5.chg k3 fun g hg hk => by have := (N5.lt hg).1; omega
  have hw := k04.size
  refine ⟨fun x w' => ∃ (i : Nat) (q' : Option Addr) (c' : Nat) (gs : List CrH), x = (i : Int) ∧ i ≤ l2 ∧ Blk w' w1.heap.size 28 #[.slice none 0 0, .slice none 0 0] ∧ Blk w' w2.heap.size 28 #[.slice q n c, .slice q' i c'] ∧ SE En.t3 w' w4.heap.size 37 q n c (normF fs) ∧ SE En.crh w' base 42 q9 l2 c9 ys ∧ SE En.crh w' w3.heap.size 42 q' i c' gs ∧ (∀ (j : Nat) (h : CrH) (c : Cr), gs[j]? = some h → (normC cs)[j]? = some c → OwnP w' w.heap.size h c) ∧ Chg none_ w w' ∧ w3.heap.size ≤ w'.heap.size, fun x _ => l2 - x.toNat,
    ⟨0, none, 0, [], rfl, Nat.zero_le _, R3', O3', N3, S3, SE.nil _ _ _ _, fun j h c hj => by simp at hj, k03', Nat.le_refl _⟩, ?_⟩
  rintro _ w20 ⟨m, q', c', gs, rfl, hm, R20, O20, N20, S20, G20, hO, k20, z20⟩
  have gl := G20.len
  refine bc (fun g => ?_) fun g => ?_
  · have g : m < l2 := by have := of_decide_eq_true g; omega
    obtain ⟨x, hx⟩ := get_ex (l := ys) (i := m) (by omega)
    obtain ⟨p, hp⟩ : ∃ p, q9 = some p := by obtain ⟨a, _, ha, _⟩ := S20.re.ex (i := 0) (by omega); exact ⟨a, ha⟩
    subst hp
    obtain ⟨rx, bx1, bx2⟩ := rdAt S20 hx
    obtain ⟨hfa, hub, huc⟩ := hyread x (List.mem_of_getElem? hx)
    have hcm : (normC cs)[m]? = some (normK (F x)) := by rw [ec, List.getElem?_map, hx]; rfl
    have ew : IntKind.wrap .i64 ((m : Int) + 1) = ((m + 1 : Nat) : Int) := by rw [wrapS (by omega) (by omega)]; omega
    rw [ew]
    refine onPtr_mk ⟨bx1, bx2, _, _, _, _, _, rx, boxed rfl rfl fun w22 B22 k22 z22 => ⟨_, (B22.cell 0).trans rfl, _, (B22.cell0 1).trans rfl, boxed rfl rfl fun w24 B24 k24 z24 => ⟨_, _, _, ((k24.blk B22 (fun x => x)).cell0 2).trans rfl, Calls.use (rsort65 (hfa.chg (k20.trans (k22.trans k24))) hub) ?_⟩⟩⟩
    rintro _ w25 ⟨q16, c16, rfl, T25, k25⟩
    obtain ⟨so2, hso2⟩ : ∃ s, s = sortOf tLt (F x).fates := ⟨_, rfl⟩
    rw [← hso2] at T25
    have tl := T25.len
    have X25 := k25.blk B24 (fun x => x)
    have k2025 := (k22.trans k24).trans k25
    have z25 := k25.size
    refine ⟨q16, x.l, c16, rfl, fun y w' => ∃ (i n : Nat) (q : Option Addr) (c : Nat), y = (i : Int) ∧ i ≤ x.l ∧ n ≤ i ∧ Blk w' w22.heap.size 42 #[.int .i64 x.step, .int .i64 x.rest, .slice q n c] ∧ SE En.t3 w' w24.heap.size 44 q16 x.l c16 so2 ∧ SE En.t3 w' w25.heap.size 44 q n c (dd tLt (so2.take i)) ∧ Chg none_ w20 w' ∧ w25.heap.size ≤ w'.heap.size, fun y _ => x.l - y.toNat,
      ⟨0, 0, none, 0, rfl, Nat.zero_le _, Nat.le_refl _, X25, T25, by rw [List.take_zero]; exact SE.nil _ _ _ _, k2025, Nat.le_refl _⟩, ?_⟩
    rintro _ w26 ⟨i, n', qn, cn, rfl, hi, hn', X26, T26, M26, k26, z26⟩
    have nl := M26.len
    refine bc (fun g1 => ?_) fun g1 => ?_
    · have g1 : i < x.l := by have := of_decide_eq_true g1; omega
      obtain ⟨y, hy⟩ := get_ex (l := so2) (i := i) (by omega)
      obtain ⟨p3, hp3⟩ : ∃ p, q16 = some p := by obtain ⟨a, _, ha, _⟩ := T26.re.ex (i := 0) (by omega); exact ⟨a, ha⟩
      subst hp3
      obtain ⟨ry, by1, by2⟩ := rdAt T26 hy
      have ew : IntKind.wrap .i64 ((i : Int) + 1) = ((i + 1 : Nat) : Int) := by rw [wrapS (by omega) (by omega)]; omega
      rw [ew]
      refine onPtr_mk ⟨by1, by2, _, _, _, ry, boxed rfl rfl fun w28 B28 k28 z28 => ⟨qn, n', cn, ((k28.blk X26 (fun x => x)).cell0 2).trans rfl, fun b w' => w' = w28.drew ∧ dd tLt (so2.take (i + 1)) = dd tLt (so2.take i) ++ if b then [y] else [], ?_, ?_⟩⟩
      · rintro b _ ⟨rfl, hb⟩
        have k28d := k28.drew
        have B28d := B28.drew
        have z28d : w28.drew.heap.size = w26.heap.size + 1 := z28
        generalize w28.drew = W at *
        have X28 := k28d.blk X26 (fun x => x)
        have T28 := T26.chgN k28d
        have M28 := M26.chgN k28d
        refine bc (fun h => ?_) fun h => ?_
        · subst h
          rw [if_pos rfl] at hb
          refine ⟨qn, n', cn, (X28.cell0 2).trans rfl, _, _, _, B28d.reads0, newBox fun w30 B30 k30 z30 => ?_⟩
          obtain ⟨q7, c7, w31, hrun, M31, k31, _, _⟩ := (M28.chgN k30).append1 (t := 40) (ty := 40) (x := y) elemFate B30 (by simp only [maxLen]; omega) (by omega) (by have := k30.size; omega)
          have z31 := k31.size
          have X31 : Blk w31 w22.heap.size 42 #[.int .i64 x.step, .int .i64 x.rest, .slice qn n' cn] := k31.blk (k30.blk X28 (fun x => x)) fun e => SE.ne (M28.chgN k30) (k30.blk X28 (fun x => x)) (by decide) _ e.symm rfl
          refine ⟨q7, n' + 1, c7, w31, hrun, X31.canStore0 (show 2 + 1 ≤ 3 by decide), fun w32 e32 => ?_⟩
          obtain ⟨X32, k32⟩ := X31.put e32
          refine ⟨⟨i + 1, n' + 1, q7, c7, rfl, g1, by omega, X32, ?_, ?_, ?_, ?_⟩, by simp only [Int.toNat_natCast]; omega⟩
          · have := (T28.chgN k30).chg k31 fun g hg hk => by have := (T25.lt hg).1; have := (M26.lt hk.symm).2; omega
            exact this.chg k32 fun g hg hk => SE.ne this X31 (by decide) g hg hk
          · rw [hb]
            exact M31.chg k32 fun g hg hk => SE.ne M31 X31 (by decide) g hg hk
          · exact (((k26.trans k28d).trans k30).up k31 fun k hk => by have := (M26.lt hk.symm).2; have := k2025.size; omega).up k32 fun k hk => by have := k22.size; omega
          · have := k30.size; have := k32.size; omega
        · subst h
          rw [if_neg (by simp), List.append_nil] at hb
          exact ⟨⟨i + 1, n', qn, cn, rfl, g1, by omega, X28, T28, by rw [hb]; exact M28, k26.trans k28d, by omega⟩, by simp only [Int.toNat_natCast]; omega⟩
      · have X28 := (k28.drew).blk X26 (fun x => x)
        have B28d := B28.drew
        have M28 := M26.chgN k28.drew
        refine bc (fun h => ?_) fun h => ?_
        · have h : n' = 0 := by have := eq_of_beq h; omega
          have hi0 : i = 0 := dd_pos tW (xs := so2) (by omega) (by rw [nl]; exact h)
          subst hi0
          exact ⟨rfl, by rw [dd_first hy, List.take_zero]; rfl⟩
        · have h : 0 < n' := by rcases Nat.eq_zero_or_pos n' with e | e; · subst e; simp at h
                                exact e
          obtain ⟨v, hv⟩ := get_ex (l := dd tLt (so2.take i)) (i := n' - 1) (by omega)
          have hnx := dd_next tW hy (by omega) (v := v) (by rw [nl]; exact hv)
          rw [tAlk] at hnx
          have en : IntKind.wrap .i64 ((n' : Int) - 1) = ((n' - 1 : Nat) : Int) := by rw [wrapS (by omega) (by omega)]; omega
          rw [en]
          obtain ⟨p2, hp2⟩ : ∃ p, qn = some p := by obtain ⟨a, _, ha, _⟩ := M26.re.ex (i := 0) (by omega); exact ⟨a, ha⟩
          subst hp2
          obtain ⟨rv, bv1, bv2⟩ := rdAt M28 hv
          have c0 := reads_at rv (i := 0) rfl
          rw [add_zero'] at c0
          refine ⟨_, _, _, (X28.cell0 2).trans rfl, onPtr_mk ⟨bv1, bv2, _, c0, _, (B28d.cell 0).trans rfl, rfl, ?_⟩⟩
          rw [hnx, bne_val]
          cases v.1 == y.1 <;> rfl
    · have hil : i = x.l := by have := of_decide_eq_false g1; omega
      subst hil
      have hall2 : so2.take x.l = so2 := List.take_of_length_le (by omega)
      have eN2 : dd tLt so2 = (normK (F x)).fates := by rw [hso2]; rfl
      rw [hall2, eN2] at M26
      have O26 := k26.blk O20 (fun x => x)
      have G26 := G20.chgN k26
      refine ⟨_, _, _, (O26.cell0 1).trans rfl, _, _, _, _, _, X26.reads0, newBox fun w33 B33 k33 z33 => ?_⟩
      obtain ⟨q8, c8, w34, hrun8, G34, k34, _, _⟩ := (G26.chgN k33).append1 (t := 26) (ty := 26) (x := ⟨x.step, x.rest, qn, n', cn⟩) elemCrash B33 (by simp only [maxLen]; omega) (by omega) (by have := k26.size; have := k33.size; omega)
      have O33 := k33.blk O26 (fun x => x)
      have O34 : Blk w34 w2.heap.size 28 #[.slice q n c, .slice q' m c'] := k34.blk O33 fun e => SE.ne (G26.chgN k33) O33 (by decide) _ e.symm rfl
      refine ⟨q8, m + 1, c8, w34, hrun8, O34.canStore0 (show 1 + 1 ≤ 2 by decide), fun w35 e35 => ?_⟩
      obtain ⟨O35, k35⟩ := O34.put e35
      have k2033 := k26.trans k33
      have z34 := k34.size
      have z35 := k35.size
      have z2033 := k2033.size
      have hq' : ∀ g, some g = qB q' → w3.heap.size ≤ g := fun g hg => (G20.lt hg.symm).2
      have farB : ∀ {b' : Nat} {cs' : Array Value}, b' ≠ w2.heap.size → Blk w20 b' 28 cs' → Blk w35 b' 28 cs' := fun hne hB => by
        have h33 := k2033.blk hB (fun x => x)
        exact k35.blk (k34.blk h33 fun e => SE.ne (G26.chgN k33) h33 (by decide) _ e.symm rfl) hne
      have keep : ∀ {b' e' l' c'' : Nat} {q'' : Option Addr} {xs' : List T3}, e' ≠ 42 → e' ≠ 28 → SE En.t3 w33 b' e' q'' l' c'' xs' → SE En.t3 w35 b' e' q'' l' c'' xs' := fun h42 h28 hS => by
        have s34 := hS.chg k34 fun g hg hk => SE.ne2 hS (G26.chgN k33) (Ne.symm h42) g hg hk
        exact s34.chg k35 fun g hg hk => SE.ne s34 O34 (Ne.symm h28) g hg hk
      refine ⟨⟨m + 1, q8, c8, gs ++ [⟨x.step, x.rest, qn, n', cn⟩], rfl, g, farB (by omega) R20, O35, keep (by decide) (by decide) (N20.chgN k2033), ?_, ?_, fun j h cc hj hc => ?_, ?_, by omega⟩, by simp only [Int.toNat_natCast]; omega⟩
      · have s34 := (S20.chgN k2033).chg k34 fun g hg hk => by have := (S3.lt hg).1; have := hq' g hk; omega
        exact s34.chg k35 fun g hg hk => SE.ne s34 O34 (by decide) g hg hk
      · exact G34.chg k35 fun g hg hk => SE.ne G34 O34 (by decide) g hg hk
      · rcases Nat.lt_or_ge j gs.length with hlt | hge
        · rw [List.getElem?_append_left hlt] at hj
          have o := hO j h cc hj hc
          exact ⟨o.1, o.2.1, keep (by decide) (by decide) (o.2.2.1.chgN k2033), o.2.2.2⟩
        · have : j = m := by have := get_lt hj; simp at this; omega
          subst this
          rw [List.getElem?_append_right hge, gl, Nat.sub_self] at hj
          cases hj
          rw [hcm] at hc; cases hc
          exact ⟨(hF x).1.symm, (hF x).2.symm, keep (by decide) (by decide) ((M26.chgN k33).lower (by have := k2025.size; have := k20.size; omega)), by show n' * 24 ≤ _; omega⟩
      · exact ((k20.trans k2033).up k34 fun k hk => by have := hq' k hk; have := k03'.size; omega).up k35 fun k hk => by omega
  · have hml : m = l2 := by have := of_decide_eq_false g; omega
    subst hml
    refine ⟨_, _, _, _, _, _, O20.reads0, R20.canStore (by show 0 + 2 ≤ 2; decide), fun w36 e36 => ?_⟩
    have R36 := R20.over e36 rfl
    have k36 : Chg (fun k => k = w1.heap.size) w20 w36 := (Chg.refl _ w20).sets' e36 (.inl rfl)
    refine ⟨_, _, _, _, _, _, R36.reads0, q, n, c, q', c', rfl, (N20.chg k36 fun g hg hk => SE.ne N20 R20 (by decide) g hg hk).lower (by omega), ⟨gs, (G20.chg k36 fun g hg hk => SE.ne G20 R20 (by decide) g hg hk).lower (by have := k03'.size; omega), by rw [ec, List.length_map]; omega, fun j h cc hj hc => ?_⟩, k20.up k36 fun k hk => by omega⟩
    have o := hO j h cc hj hc
    exact o.chg k36 fun g hg hk => SE.ne o.2.2.1 R20 (by decide) g hg hk
end Go.Proofs.YtdlbmmodlkmofaaDoor
