import Derived.Test.YtibpbbjlecohiaaRws
import Derived.Lib.SliceRun
/-! slices.Delete of the first: what it leaves. -/
namespace Go.Vc
open Go.RowKit
theorem run_sliceAt_ijn {P : Program} {t e : TypeId} {k bytes : Nat} (ho : ElemOk P t e k bytes) (q : Option Addr) (l c i j n : Nat) (hi : i ≤ j) (hj : j ≤ n) (hn : n ≤ c) (w : World) :
    ∃ q' l' c', (Instr.sliceAt t (.slice q l c) (some (.int .i64 (i : Int))) (some (.int .i64 (j : Int))) (some (.int .i64 (n : Int)))).run P w = .ok (.slice q' l' c') w := by
  obtain ⟨ht, z, hz, _⟩ := ho
  have he : P.elem t = e := by simp [Program.elem, ht]
  have ht' : P.underlying t = some (.slice (P.elem t)) := by rw [he]; exact ht
  cases hf : P.info? e with
  | none => rw [hf] at hz; simp at hz
  | some y =>
    have hs : (sizeOf (P.elem t)).run P w = .ok y.size w := by rw [he]; simp [sizeOf, typeInfo, hf]
    have hr := run_slice_lhm w t q l c ht' .i64 .i64 .i64 (i : Int) (j : Int) (n : Int) (by omega) (by omega) (by omega) (by omega)
    rw [← run_sliceAt_slice w t _ _ _ _ ht', hs] at hr
    exact ⟨_, _, _, hr⟩
theorem run_clear_off {P : Program} (w : World) (t e ty : TypeId) (z : Value) (ht : P.underlying t = some (.slice e)) (hv : ∀ w, (zeroValue e).run P w = .ok z w) (h1 : ∀ v ∈ z.cells.toList, v.oneCell' = true) (g o c : Nat) (cur : Array Value) (hg : Blk w g e cur) (hfit : o + z.cells.size ≤ cur.size) :
    (Builtin.clear_ #[t] ty #[.slice (some ⟨g, o, none⟩) 1 c]).run P w = .ok (.tuple #[]) (w.setRow g (cur.toList.take o ++ z.cells.toList ++ cur.toList.drop (o + z.cells.toList.length)).toArray) := by
  have hzc : (Builtin.zeroCells z.cells 1).toList = z.cells.toList := by
    apply List.ext_getElem
    · simp [Builtin.zeroCells]
    · intro i h1 h2
      simp [Builtin.zeroCells] at h1 ⊢
      rw [Nat.mod_eq_of_lt h1]
      exact getElem!_pos ..
  have hst := run_storeCells_at P g o e z.cells.toList 0 cur w hg (by simpa using hfit) h1
  simp only [Nat.add_zero] at hst
  simp [Builtin.clear_, hv, hzc, hst, run_underlying ht]
section
variable {α : Type} {E : En α} {w : World} {base : Nat} {e : TypeId} {q : Option Addr} {l c : Nat} {xs : List α}
/-- in room -/
theorem SE.appendIn {P : Program} {t ty : TypeId} {bytes m c2 : Nat} {q2 : Option Addr} {news : List α} (h : SE E w base e q l c xs) (ht : ElemOk P t e E.k bytes) (hb : RE E w q2 m news) (hroom : l + m ≤ c) :
    ∃ w', (Builtin.append_ #[t, t] ty #[.slice q l c, .slice q2 m c2]).run P w = .ok (.slice q (l + m) c) w' ∧ SE E w' base e q (l + m) c (xs ++ news) ∧ Chg (fun k => some k = qB q) w w' := by
  obtain ⟨ht, z, hi, hz⟩ := ht
  cases hj : P.info? e with
  | none => rw [hj] at hi; simp at hi
  | some j =>
    rw [hj] at hi
    simp at hi
    obtain ⟨hs, hzero, hbt⟩ := hi
    by_cases hm : m = 0
    · subst hm
      have hn : news = [] := List.eq_nil_of_length_eq_zero hb.len
      subst hn
      exact ⟨w, run_append_zero w t ty e j ht hj q l c h.le q2 c2, by simpa using h, Chg.refl _ _⟩
    obtain ⟨a, rfl, hnews⟩ := hb.flat hm
    have hnl : (E.flat news).length = m * E.k := by rw [E.flat_len, hb.len]
    have hxl : (E.flat xs).length = l * E.k := by rw [E.flat_len, h.len]
    have hlen : (xs ++ news).length = l + m := by simp [h.len, hb.len]
    have hflat : E.flat (xs ++ news) = E.flat xs ++ E.flat news := E.flat_app xs news
    have hnews' : ∀ i u, (E.flat news)[i]? = some u → w.cell? (a.add i) = some u := hnews
    rcases h.ex with ⟨rfl, rfl, rfl⟩ | ⟨g, off, cur, rfl, hbg, hg, h1, h2, h3, hr⟩
    · omega
    · have hmul : (l + m) * E.k ≤ c * E.k := Nat.mul_le_mul_right _ hroom
      rw [Nat.add_mul] at hmul
      have hrun := run_append_off (P := P) w t ty e j ht hj g off l c cur hg a m c2 (E.flat news) (by rw [hs]; omega) hnews' (E.flat_one' news) hroom (by rw [hs]; omega)
      refine ⟨_, hrun, ?_, ⟨rfl, rfl, rfl, by simp [World.setRow], fun k _ hk => setRow_other w g k _ (fun e => hk (by simp [qB, e]))⟩⟩
      refine ⟨hlen, .inr ⟨g, off, _, rfl, hbg, setRow_heap w g cur _ e _ hg, hroom, h2, ?_, fun i u hu => ?_⟩⟩
      · rw [hs]
        simp only [List.size_toArray, List.length_append, List.length_take, List.length_drop, Array.length_toList]
        omega
      · rw [hs]
        rw [hflat] at hu
        simp only [List.getElem?_toArray, List.append_assoc]
        rcases Nat.lt_or_ge i (E.flat xs).length with h4 | h4
        · rw [List.getElem?_append_left h4] at hu
          rw [List.getElem?_append_left (by simp; omega), List.getElem?_take, if_pos (by omega), ← hr i u hu]
          simp
        · rw [List.getElem?_append_right h4] at hu
          have hin := get_lt hu
          rw [List.getElem?_append_right (by simp; omega), List.length_take,
            show off + i - min (off + l * E.k) cur.toList.length = i - (E.flat xs).length by rw [Array.length_toList]; omega, List.getElem?_append_left hin]
          exact hu
/-- the cells behind the last, made zero: one element's -/
theorem SE.clear1 {P : Program} {t ty : TypeId} {z : Value} (h : SE E w base e q l c xs) (hq : q ≠ none) (ht : P.underlying t = some (.slice e)) (hv : ∀ w, (zeroValue e).run P w = .ok z w) (h1 : ∀ v ∈ z.cells.toList, v.oneCell' = true) (hk : z.cells.size = E.k) (hroom : l + 1 ≤ c) :
    ∃ w', (Builtin.clear_ #[t] ty #[.slice (cutP q c l E.k) 1 (c - l)]).run P w = .ok (.tuple #[]) w' ∧ SE E w' base e q l c xs ∧ Chg (fun k => some k = qB q) w w' := by
  rcases h.ex with ⟨rfl, _⟩ | ⟨g, off, cur, rfl, hbg, hg, h2, h3, h4, hr⟩
  · exact absurd rfl hq
  have hp := E.pos
  have hmul : (l + 1) * E.k ≤ c * E.k := Nat.mul_le_mul_right _ hroom
  rw [Nat.add_mul, Nat.one_mul] at hmul
  have hc : cutP (some (⟨g, off, none⟩ : Addr)) c l E.k = some ⟨g, off + l * E.k, none⟩ := by
    rw [cutP, if_neg (by omega)]
    simp [add_mk]
  have hzl : z.cells.toList.length = E.k := by simpa using hk
  have hrun := run_clear_off (P := P) w t e ty z ht hv h1 g (off + l * E.k) (c - l) cur hg (by omega)
  rw [hc]
  refine ⟨_, hrun, ⟨h.len, .inr ⟨g, off, _, rfl, hbg, setRow_heap w g cur _ e _ hg, h2, h3, ?_, fun i u hu => ?_⟩⟩, ⟨rfl, rfl, rfl, by simp [World.setRow], fun k _ hk => setRow_other w g k _ (fun e => hk (by simp [qB, e]))⟩⟩
  · simp only [List.size_toArray, List.length_append, List.length_take, List.length_drop, Array.length_toList]
    omega
  · have hi := get_lt hu
    rw [E.flat_len, h.len] at hi
    simp only [List.getElem?_toArray, List.append_assoc]
    rw [List.getElem?_append_left (by simp; omega), List.getElem?_take, if_pos (by omega), ← hr i u hu]
    simp
end
end Go.Vc
