import Derived.Test.YtjfafkgjcgbgfaaDoorSn
import Derived.Lib.AppendStr
set_option maxRecDepth 20000
namespace Go.Vc
open Go Go.RowKit
section
variable {α : Type} {E : En α} {w : World} {base : Nat} {e : TypeId} {q : Option Addr} {l c : Nat} {xs : List α}
theorem run_append_off_string {P : Program} (w : World) (t u ty e : TypeId) (i : TypeInfo) (ht : P.underlying t = some (.slice e)) (hu : P.underlying u = some .string) (hi : P.info? e = some i) (hs1 : i.size = 1)
    (g off sLen sCap : Nat) (cur : Array Value) (hg : w.heap[g]? = some (.cells cur e (0, 0))) (s : ByteArray)
    (hroom : sLen + s.size ≤ sCap) (hfit : off + sLen + s.size ≤ cur.size) :
    (Builtin.append_ #[t, u] ty #[.slice (some ⟨g, off, none⟩) sLen sCap, .string s]).run P w =
      .ok (.slice (some ⟨g, off, none⟩) (sLen + s.size) sCap) (w.setRow g (cur.toList.take (off + sLen) ++ Lib.strCells s ++ cur.toList.drop (off + sLen + s.size)).toArray) := by
  have hf := Lib.run_firstCells_string (P := P) w 1 s
  have hst := run_storeCells_at P g (off + sLen) e (Lib.strCells s) 0 cur w hg (by simpa [Lib.strCells_length] using hfit) (Lib.strCells_oneCell s)
  simp only [Nat.add_zero, Lib.strCells_length] at hst
  simp [Builtin.append_, run_underlying ht, run_underlying hu, sizeOf, typeInfo, hi, hs1, Builtin.lenOf, hroom, hf, add_mk, hst]
theorem run_append_zero_string {P : Program} (w : World) (t u ty e : TypeId) (i : TypeInfo) (ht : P.underlying t = some (.slice e)) (hu : P.underlying u = some .string) (hi : P.info? e = some i) (q : Option Addr) (l c : Nat) (hle : l ≤ c) (s : ByteArray) (h0 : s.size = 0) :
    (Builtin.append_ #[t, u] ty #[.slice q l c, .string s]).run P w = .ok (.slice q l c) w := by
  have hf := Lib.run_firstCells_string (P := P) w i.size s
  have hc : Lib.strCells s = [] := List.eq_nil_of_length_eq_zero (by rw [Lib.strCells_length, h0])
  rw [hc, h0] at hf
  cases q <;> simp [Builtin.append_, run_underlying ht, run_underlying hu, sizeOf, typeInfo, hi, Builtin.lenOf, h0, hle, hf, storeCells]
/-- a string's bytes behind them -/
theorem SE.appendS {P : Program} {t u ty : TypeId} {s : ByteArray} {news : List α} (h : SE E w base e q l c xs) (ht : ElemOk P t e E.k 1) (hu : P.underlying u = some .string) (hk : E.k = 1)
    (hn : E.flat news = Lib.strCells s) (h63 : l + s.size ≤ maxLen) (hby : l + s.size ≤ 140737488355328) (hbase : base ≤ w.heap.size) :
    ∃ q' c' w', (Builtin.append_ #[t, u] ty #[.slice q l c, .string s]).run P w = .ok (.slice q' (l + s.size) c') w' ∧ SE E w' base e q' (l + s.size) c' (xs ++ news) ∧
      Chg (fun k => some k = qB q) w w' ∧ (qB q' = qB q ∨ qB q' = some w.heap.size) := by
  obtain ⟨ht, z, hi, hz⟩ := ht
  have hp := E.pos
  have hnl : (E.flat news).length = s.size := by rw [hn, Lib.strCells_length]
  have hnn : news.length = s.size := by
    have := E.flat_len (xs := news)
    rw [hnl, hk] at this; omega
  cases hj : P.info? e with
  | none => rw [hj] at hi; simp at hi
  | some j =>
    rw [hj] at hi
    simp at hi
    obtain ⟨hs, hzero, hbt⟩ := hi
    by_cases hm : s.size = 0
    · have hnil : news = [] := List.eq_nil_of_length_eq_zero (by omega)
      subst hnil
      refine ⟨q, c, w, by rw [hm]; exact run_append_zero_string w t u ty e j ht hu hj q l c h.le s hm, by rw [hm]; simpa using h, Chg.refl _ _, .inl rfl⟩
    have hxl : (E.flat xs).length = l := by rw [E.flat_len, h.len, hk, Nat.mul_one]
    have hlen : (xs ++ news).length = l + s.size := by simp [h.len, hnn]
    have hflat : E.flat (xs ++ news) = E.flat xs ++ E.flat news := E.flat_app xs news
    have fresh : ∀ old, old < l + s.size → ∀ S, SE E (w.drew.alloc (.cells ((E.flat xs).toArray ++ (E.flat news).toArray ++ Builtin.zeroCells z.cells (grownCap w (l + s.size) old e - (l + s.size))) e)) base e (some ⟨w.heap.size, 0, none⟩) (l + s.size) (grownCap w (l + s.size) old e) (xs ++ news) ∧
        Chg S w (w.drew.alloc (.cells ((E.flat xs).toArray ++ (E.flat news).toArray ++ Builtin.zeroCells z.cells (grownCap w (l + s.size) old e - (l + s.size))) e)) := fun old ho S => by
      have hge := grownCap_ge w (l + s.size) old e
      have hcm : grownCap w (l + s.size) old e ≤ maxLen := grownCap_le_maxLen w (l + s.size) old e h63
      refine ⟨⟨hlen, .inr ⟨w.heap.size, 0, _, rfl, hbase, Blk.new w.drew _ _, hge, hcm, ?_, fun i u hu => ?_⟩⟩, (Chg.refl S w).drew.alloc _⟩
      · simp only [Array.size_append, List.size_toArray, size_zeroCells, hz, hxl, hnl, hk]
        omega
      · rw [Nat.zero_add]
        have : i < (E.flat (xs ++ news)).length := get_lt hu
        rw [hflat, List.length_append] at this
        rw [Array.getElem?_append_left (by simpa using this), ← hu, hflat]
        simp
    rcases h.ex with ⟨rfl, rfl, rfl⟩ | ⟨g, off, cur, rfl, hbg, hg, h1, h2, h3, hr⟩
    · have hx0 : xs = [] := List.eq_nil_of_length_eq_zero h.len
      subst hx0
      have hrun := run_append_nil_string (P := P) w t u ty e j z ht hu hj hzero s (by omega) (by simp only [maxLen] at h63; omega) (by rw [hbt]; omega)
      obtain ⟨f1, f2⟩ := fresh 0 (by omega) (fun k => some k = qB none)
      have e0 : E.flat ([] : List α) = [] := rfl
      have e1 : s.data.map (fun b => Value.int .u8 b.toNat) = (E.flat news).toArray := by
        rw [hn]; apply Array.toList_inj.1; simp [Lib.strCells]
      simp only [Nat.zero_add, List.nil_append, e0, Array.empty_append] at f1 f2 ⊢
      rw [e1] at hrun
      exact ⟨_, _, _, hrun, f1, f2, .inr rfl⟩
    · by_cases hroom : l + s.size ≤ c
      · rw [hk, Nat.mul_one] at h3
        have hrun := run_append_off_string (P := P) w t u ty e j ht hu hj (hs.trans hk) g off l c cur hg s hroom (by omega)
        rw [← hn] at hrun
        suffices hh : SE E _ base e (some ⟨g, off, none⟩) (l + s.size) c (xs ++ news) from ⟨_, _, _, hrun, hh, ⟨rfl, rfl, rfl, by simp [World.setRow], fun k _ hk => setRow_other w g k _ (fun e => hk (by simp [qB, e]))⟩, .inl rfl⟩
        refine ⟨hlen, .inr ⟨g, off, _, rfl, hbg, setRow_heap w g cur _ e _ hg, hroom, h2, ?_, fun i u hu => ?_⟩⟩
        · rw [hk, Nat.mul_one]
          simp only [List.size_toArray, List.length_append, List.length_take, List.length_drop, Array.length_toList, hnl]
          omega
        · rw [hflat] at hu
          simp only [List.getElem?_toArray, List.append_assoc]
          rcases Nat.lt_or_ge i (E.flat xs).length with h4 | h4
          · rw [List.getElem?_append_left h4] at hu
            rw [List.getElem?_append_left (by simp; omega), List.getElem?_take, if_pos (by omega), ← hr i u hu]
            simp
          · rw [List.getElem?_append_right h4] at hu
            have hin := get_lt hu
            rw [List.getElem?_append_right (by simp; omega), List.length_take,
              show off + i - min (off + l) cur.toList.length = i - (E.flat xs).length by rw [Array.length_toList]; omega, List.getElem?_append_left hin]
            exact hu
      · have holds : ∀ i u, (E.flat xs)[i]? = some u → w.cell? ((⟨g, off, none⟩ : Addr).add i) = some u := fun i u hu => by rw [add_mk, hg.cell, hr i u hu]
        have hrun := Lib.run_append_grow_string (P := P) w t u ty e j z ht hu hj hzero ⟨g, off, none⟩ l c (E.flat xs) (by rw [hs, hk]; omega) holds s (by omega) (by simp only [maxLen] at h63; omega) (growslice_fits (by omega) (by rw [hbt]; omega))
        rw [← hn] at hrun
        obtain ⟨f1, f2⟩ := fresh c (by omega) (fun k => some k = qB (some ⟨g, off, none⟩))
        exact ⟨_, _, _, hrun, f1, f2, .inr rfl⟩
end
end Go.Vc
