import Derived.Test.YtibpbbjlecohiaaHp
import Derived.Maps.OwnSet
/-! A map from ints to three ints, as a function (for api.Waiting). -/
namespace Go.Vc
open Go.RowKit Go.ChangeMaps Go.MapKept Go.WideShapes
open Go.Maps (Keyed IsMap Tidy)
abbrev W3 := Int × Int × Int
def d3 (v : W3) : DataW Unit := .agg [.lit (.int .i64 v.1), .lit (.int .i64 v.2.1), .lit (.int .i64 v.2.2)]
abbrev a3 (v : W3) : Value := .agg #[.int .i64 v.1, .int .i64 v.2.1, .int .i64 v.2.2]
def R3 : Value → Option (DataW Unit × List MemPlace)
  | .agg ⟨[.int .i64 a, .int .i64 b, .int .i64 c]⟩ => some (d3 (a, b, c), [])
  | _ => none
theorem R3_mk (v : W3) : R3 (a3 v) = some (d3 v, []) := rfl
theorem R3_inv {v : Value} {x : W3} {ps : List MemPlace} (h : R3 v = some (d3 x, ps)) : v = a3 x := by
  unfold R3 at h
  split at h
  · simp only [Option.some.injEq, Prod.mk.injEq, d3] at h
    obtain ⟨h, _⟩ := h
    simp at h
    obtain ⟨rfl, rfl, rfl⟩ := h
    rfl
  · cases h
def ok64 (x : Int) : Prop := (Lit.int .i64 x).wf = true
abbrev l64 (x : Int) : Lit := .int .i64 x
structure Mp (P : Program) (k : TypeId) (w : World) (b n : Nat) (f : Int → Option W3) : Prop where
  ex : ∃ D : DataW Unit, w.ownsMap P k R3 b n D ∧ (∀ x, ok64 x → Maps.has D (l64 x) = (f x).isSome) ∧ ∀ x, ok64 x → ∀ z, D.atKey (l64 x) z = ((f x).map d3).getD z
def updF (f : Int → Option W3) (x : Int) (v : Option W3) : Int → Option W3 := fun y => if y = x then v else f y
section
variable {P : Program} {k t e : TypeId} {w w' : World} {b n : Nat} {f : Int → Option W3}
theorem key64 (hk : P.underlying k = some (.int .i64)) {x : Int} (hx : ok64 x) : keyOf P k (.int .i64 x) = some (l64 x) := by
  have hx' : (Lit.int .i64 x).wf = true := hx
  simp [keyOf, mapKey, hk, hx', l64]
theorem Mp.made (w : World) : Mp P k (w.alloc (.map #[] 0)) w.heap.size 0 (fun _ => none) :=
  ⟨_, World.ownsMap_made w P k R3, fun _ _ => rfl, fun _ _ _ => rfl⟩
theorem Mp.lt (h : Mp P k w b n f) : b < w.heap.size := by obtain ⟨D, h, _⟩ := h.ex; exact h.lt
theorem Mp.chg (h : Mp P k w b n f) {S : Nat → Prop} (c : Chg S w w') (hS : ¬ S b) : Mp P k w' b n f := by
  obtain ⟨D, h1, h2, h3⟩ := h.ex
  have hb := c.block b h1.lt hS
  obtain ⟨es, clock, hh, r⟩ := h1
  exact ⟨D, ⟨es, clock, hb.trans hh, r⟩, h2, h3⟩
theorem Mp.look (h : Mp P k w b n f) (hk : P.underlying k = some (.int .i64)) (ht : P.underlying t = some (.map k e)) (hz : ∀ w, (zeroValue e).run P w = .ok (a3 (0, 0, 0)) w) {x : Int} (hx : ok64 x) :
    (Instr.lookup t (.map (some b)) (.int .i64 x) true).run P w = .ok (.tuple #[a3 ((f x).getD (0, 0, 0)), .bool (f x).isSome]) w := by
  obtain ⟨D, h1, h2, h3⟩ := h.ex
  obtain ⟨v, ps, hrun, hv⟩ := h1.look_ok (Maps.int_keyed hk) ht (hz w) (R3_mk (0, 0, 0)) (key64 hk hx)
  rw [h3 x hx] at hv
  rw [hrun, h2 x hx]
  cases hf : f x with
  | none => rw [hf] at hv; rw [R3_inv hv]; rfl
  | some u => rw [hf] at hv; rw [R3_inv (x := u) hv]; rfl
theorem Mp.update (h : Mp P k w b n f) (hk : P.underlying k = some (.int .i64)) (ht : P.underlying t = some (.map k e)) (hn : n < maxLen) {x : Int} (hx : ok64 x) (v : W3) :
    ∃ w', (Instr.mapUpdate t (.map (some b)) (.int .i64 x) (a3 v)).run P w = .ok () w' ∧ Mp P k w' b (n + 1) (updF f x (some v)) ∧ Chg (fun g => g = b) w w' := by
  obtain ⟨D, h1, h2, h3⟩ := h.ex
  obtain ⟨w', hrun, ho, hg⟩ := h1.update (Maps.int_keyed hk) ht hn (key64 hk hx) (R3_mk v)
  refine ⟨w', hrun, ⟨_, ho, fun y hy => ?_, fun y hy z => ?_⟩, ⟨hg.os, hg.tape, hg.output, hg.size, fun g hg' hne => hg.block g hg' (fun e => hne (by simpa using e))⟩⟩
  · by_cases e : y = x
    · subst e; rw [Maps.has_put_same h1.isMap ((Maps.int_keyed hk).key (key64 hk hx))]; simp [updF]
    · rw [Maps.has_put_other (by simpa [l64] using e), h2 y hy]; simp [updF, e]
  · by_cases e : y = x
    · subst e; rw [Maps.atKey_put_same h1.isMap ((Maps.int_keyed hk).key (key64 hk hx))]; simp [updF]
    · rw [Maps.atKey_put_other (by simpa [l64] using e), h3 y hy]; simp [updF, e]
theorem Mp.delete (h : Mp P k w b n f) (hk : P.underlying k = some (.int .i64)) (ht : P.underlying t = some (.map k e)) {x : Int} (hx : ok64 x) (ty : TypeId) :
    ∃ w', (Builtin.delete_ #[t, k] ty #[.map (some b), .int .i64 x]).run P w = .ok (.tuple #[]) w' ∧ Mp P k w' b n (updF f x none) ∧ Chg (fun g => g = b) w w' := by
  obtain ⟨D, h1, h2, h3⟩ := h.ex
  obtain ⟨w', hrun, ho, es, clock, es', clock', hb, rfl⟩ := h1.drop (Maps.int_keyed hk) ht (key64 hk hx) ty
  refine ⟨_, hrun, ⟨_, ho, fun y hy => ?_, fun y hy z => ?_⟩, ⟨rfl, rfl, rfl, by simp [setBlock], fun g _ hne => heap_setBlock_other hb _ hne⟩⟩
  · by_cases e : y = x
    · subst e; rw [Maps.has_del_same]; simp [updF]
    · rw [Maps.has_del_other (by simpa [l64] using e), h2 y hy]; simp [updF, e]
  · by_cases e : y = x
    · subst e; rw [Maps.atKey_del_same]; simp [updF]
    · rw [Maps.atKey_del_other (by simpa [l64] using e), h3 y hy]; simp [updF, e]
end
end Go.Vc
