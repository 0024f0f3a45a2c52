/- What the evict laws' rows share: a script's reading gives its steps' cells. -/
import Derived.Test.YtnloecggngmcjaaRows
import Derived.Test.YtnloecggngmcjaaChecked
import Derived.Test.YtnloecggngmcjaaEvI
import Derived.Test.YtnloecggngmcjaaFr
set_option maxRecDepth 20000
namespace Go.Proofs.Ytnloecggngmcjaa
open Go Go.Vc Go.RowKit Go.ChangeShapes Go.WideShapes Go.ChangeAt Go.Vc.Ring
theorem own : ownKnob Try.prog.godebug = none := by kernel_rfl
theorem laid : laidOutB Try.prog = true := by kernel_rfl

section
variable {H : Type} {enc : TypeId × Value → H} {w : World} {base : Nat} {spare : Nat → Bool} {held : Bool}
theorem ops_trod {q : Option Addr} {l c n : Nat} {y : DataW H × List MemPlace} (h : DataW.trod enc Try.prog w base spare held n 22 [.slice q l c] = some y) : Ops w q l ∧ l ≤ 9223372036854775807 := by
  have hk : flatK Try.prog 3 30 = some [.int .i64, .int .i64] := by kernel_rfl
  have hc : Try.prog.cellsOf 30 = 2 := by kernel_rfl
  obtain ⟨h1, h2⟩ := slice_elems Try.underlying22 3 hk h
  refine ⟨fun i hi => ?_, by simp only [maxLen] at h1; omega⟩
  obtain ⟨a, vs, _, _, rfl, ha, _, hr, _⟩ := h2 i hi
  have : exKs [.int .i64, .int .i64] fun us => vs = us := areK_ex ha rfl
  obtain ⟨x, y, rfl⟩ := this
  rw [hc] at hr
  exact ⟨a, x, y, rfl, hr⟩
theorem script_open {r : Reach} {b0 : Nat} {v : Value} {d : DataW H} {p : List MemPlace} (hv : Value.okWide Try.prog w r b0 24 v) (h : DataW.Trod enc Try.prog w base spare held 24 v d p) :
    ∃ k n kp q l c, v = .agg #[.int .i64 k, .int .i64 n, .int .i64 kp, .slice q l c] ∧ Ops w q l ∧ l ≤ 9223372036854775807 := by
  have hk : flatK Try.prog 3 24 = some [.int .i64, .int .i64, .int .i64, .sl] := by kernel_rfl
  obtain ⟨k, n, kp, q, l, c, rfl⟩ := kinds_agg' Try.underlying24 hv h 3 hk
  obtain ⟨m, y, hf⟩ := field_trod (i := 3) (cs := [.int .i64 k, .int .i64 n, .int .i64 kp, .slice q l c]) Try.underlying24 h rfl
  have hc : Try.prog.cellsOf 22 = 1 := by kernel_rfl
  have hf' : DataW.trod enc Try.prog w base spare held m 22 [.slice q l c] = some y := by simpa [hc] using hf
  exact ⟨k, n, kp, q, l, c, rfl, ops_trod hf'⟩
theorem slice_open {r : Reach} {b0 : Nat} {v : Value} {d : DataW H} {p : List MemPlace} (hv : Value.okWide Try.prog w r b0 22 v) (h : DataW.Trod enc Try.prog w base spare held 22 v d p) : ∃ q l c, v = .slice q l c := by
  obtain ⟨q, l, c, rfl⟩ := okWide_slice Try.underlying22 hv
  exact ⟨q, l, c, rfl⟩
theorem slice_ops {q : Option Addr} {l c : Nat} {d : DataW H} {p : List MemPlace} (h : DataW.Trod enc Try.prog w base spare held 22 (.slice q l c) d p) : Ops w q l ∧ l ≤ 9223372036854775807 := by
  obtain ⟨n, hn⟩ := h
  exact ops_trod (y := (d, p)) hn
theorem bulk_pos (d : DataW H) : 1 ≤ Rows.uptoBulk d := by
  cases d with
  | lit l => cases l <;> simp [Rows.uptoBulk]
  | nil => simp [Rows.uptoBulk]
  | ptr d => simp [Rows.uptoBulk]
  | slice elems spare => simp [Rows.uptoBulk]
  | agg parts => simp [Rows.uptoBulk]
  | iface t d => simp [Rows.uptoBulk]
  | map entries => simp [Rows.uptoBulk]
  | held h => simp [Rows.uptoBulk]
theorem bulk_len : ∀ l : List (DataW H), l.length ≤ Rows.uptoBulkAll l
  | [] => Nat.zero_le _
  | x :: r => by
    have h1 := bulk_pos x
    have h2 := bulk_len r
    simp only [Rows.uptoBulkAll, List.length_cons]; omega
theorem bulk_part : ∀ {l : List (DataW H)} {d : DataW H}, d ∈ l → Rows.uptoBulk d ≤ Rows.uptoBulkAll l
  | x :: r, d, h => by
    simp only [Rows.uptoBulkAll]
    rcases List.mem_cons.1 h with rfl | h
    · omega
    · have := bulk_part h; omega
theorem script_bulk {k n kp : Int} {q : Option Addr} {l c : Nat} {d : DataW H} {p : List MemPlace} (h : DataW.Trod enc Try.prog w base spare held 24 (.agg #[.int .i64 k, .int .i64 n, .int .i64 kp, .slice q l c]) d p) : l ≤ Rows.uptoBulk d := by
  obtain ⟨m, hm⟩ := h
  obtain ⟨xs, m', _, e, _, hlen, hx⟩ := DataW.trod_struct Try.underlying24 hm
  have h3 := hx 3 _ rfl
  have hc : Try.prog.cellsOf 22 = 1 := by kernel_rfl
  have h4 : 3 < xs.length := by rw [hlen]; exact Nat.lt_of_lt_of_eq (show 3 < 4 by omega) rfl
  rw [List.getElem?_eq_getElem h4] at h3
  have hf : DataW.trod enc Try.prog w base spare held m' 22 [.slice q l c] = some xs[3] := by simpa [hc, Value.cells] using h3
  have hin : (xs[3]).1 ∈ xs.map (·.1) := List.mem_map.2 ⟨xs[3], List.getElem_mem h4, rfl⟩
  have hd : d = .agg (xs.map (·.1)) := congrArg Prod.fst e
  have h5 := bulk_part hin
  have h6 : l ≤ Rows.uptoBulk (xs[3]).1 := by
    rcases DataW.trod_slice Try.underlying22 hf with ⟨h1, _⟩ | ⟨_, len, _, elems, rest, _, _, h1, h2, _, _, _, hel, _⟩
    · simp at h1; omega
    · simp at h1
      have h6 := bulk_len (elems.map (·.1))
      rw [h2]
      simp only [Rows.uptoBulk]
      simp at h6
      omega
  rw [hd]
  simp only [Rows.uptoBulk]
  omega
end
end Go.Proofs.Ytnloecggngmcjaa
