import Derived.Test.YtibpbbjlecohiaaMp
import Derived.Laws.IdiomRangeMap
/-! Maps from ints to values, as lists of pairs; rounds over them in whatever order. -/
namespace Go.Vc
open Go.RowKit Go.ChangeMaps Go.MapKept Go.WideShapes
open Go.Maps (Keyed)
abbrev KV := Int × Value
/-- block b is a map: these pairs -/
structure MvE (w : World) (b : Nat) (L : List KV) (es : Array MapEntry) (clock : Nat) : Prop where
  heap : w.heap[b]? = some (.map es clock)
  len : es.toList.length = L.length
  at' : ∀ (i : Nat) (e : MapEntry) (p : KV), es.toList[i]? = some e → L[i]? = some p → e.key = .int .i64 p.1 ∧ e.val = p.2
  born : (es.toList.map (·.born)).Nodup
  old : ∀ e ∈ es.toList, e.born < clock
structure Mv (w : World) (b : Nat) (L : List KV) : Prop where
  ex : ∃ es clock, MvE w b L es clock
  nd : (L.map Prod.fst).Nodup
  ok : ∀ p ∈ L, ok64 p.1
def lkL (L : List KV) (x : Int) : Option Value := (L.find? (fun p => p.1 == x)).map Prod.snd
theorem lkL_some {L : List KV} (nd : (L.map Prod.fst).Nodup) {x : Int} {v : Value} : lkL L x = some v ↔ (x, v) ∈ L := by
  induction L with
  | nil => simp [lkL]
  | cons p L ih =>
    obtain ⟨y, u⟩ := p
    simp only [List.map_cons, List.nodup_cons] at nd
    have ih := ih nd.2
    unfold lkL at ih ⊢
    rw [List.find?_cons]
    by_cases h : y = x
    · subst h
      simp only [beq_self_eq_true, Option.map_some, Option.some.injEq, List.mem_cons, Prod.mk.injEq, true_and]
      constructor
      · intro h; exact .inl h.symm
      · rintro (h | h)
        · exact h.symm
        · exact absurd (List.mem_map.2 ⟨_, h, rfl⟩) nd.1
    · have hb : (y == x) = false := by simpa using h
      simp only [hb, ih, List.mem_cons, Prod.mk.injEq]
      constructor
      · exact .inr
      · rintro (⟨h', _⟩ | h')
        · exact absurd h'.symm h
        · exact h'
theorem lkL_none {L : List KV} {x : Int} : lkL L x = none ↔ ∀ p ∈ L, p.1 ≠ x := by
  unfold lkL
  rw [Option.map_eq_none_iff, List.find?_eq_none]
  constructor
  · intro h p hp he; exact h p hp (by simpa using he)
  · intro h p hp; simpa using h p hp
section
variable {P : Program} {k t e : TypeId} {w w' : World} {b : Nat} {L : List KV}
theorem Mv.lt (h : Mv w b L) : b < w.heap.size := by
  obtain ⟨es, cl, h, _⟩ := h.ex
  rcases Nat.lt_or_ge b w.heap.size with h1 | h1
  · exact h1
  · rw [Array.getElem?_eq_none h1] at h; cases h
theorem Mv.chg (h : Mv w b L) {S : Nat → Prop} (c : Chg S w w') (hS : ¬ S b) : Mv w' b L := by
  have hl := h.lt
  obtain ⟨es, cl, E⟩ := h.ex
  exact ⟨⟨es, cl, { E with heap := (c.block b hl hS).trans E.heap }⟩, h.nd, h.ok⟩
theorem Mv.chgN (h : Mv w b L) (c : Chg none_ w w') : Mv w' b L := h.chg c fun x => x
theorem Mv.ne (h : Mv w b L) {g : Nat} {t : TypeId} {cs : Array Value} (B : Blk w g t cs) : b ≠ g := fun hb => by
  obtain ⟨es, cl, E⟩ := h.ex
  have hh := E.heap
  subst hb
  rw [Blk, hh] at B
  cases B
theorem Mv.made (w : World) : Mv (w.alloc (.map #[] 0)) w.heap.size [] :=
  ⟨⟨#[], 0, ⟨heap_alloc_new w _, rfl, fun i e p h => by simp at h, List.nodup_nil, fun e h => by simp at h⟩⟩, List.nodup_nil, fun p h => by cases h⟩
/-- what is found of a key -/
theorem Mv.find (h : Mv w b L) (hk : P.underlying k = some (.int .i64)) {x : Int} (hx : ok64 x) {es : Array MapEntry} {cl : Nat} (E : MvE w b L es cl) :
    ((Instr.findKey k (.int .i64 x) es.toList).run P w = .ok none w ∧ lkL L x = none) ∨ ∃ j ent v, (Instr.findKey k (.int .i64 x) es.toList).run P w = .ok (some (j, v)) w ∧ es.toList[j]? = some ent ∧ L[j]? = some (x, v) ∧ ent.key = .int .i64 x ∧ ent.val = v := by
  have K := Maps.int_keyed hk
  have hkeys : ∀ e ∈ es.toList, ∃ l, keyOf P k e.key = some l := fun e he => by
    obtain ⟨i, hi⟩ := List.getElem?_of_mem he
    have hlt : i < L.length := by
      rw [← E.len]
      rcases Nat.lt_or_ge i es.toList.length with h1 | h1
      · exact h1
      · rw [List.getElem?_eq_none h1] at hi; cases hi
    have hp : L[i]? = some L[i] := List.getElem?_eq_getElem hlt
    have h1 := (E.at' i e _ hi hp).1
    rw [h1]
    exact ⟨_, key64 hk (h.ok _ (List.getElem_mem hlt))⟩
  rcases K.find w (key64 hk hx) es.toList hkeys with ⟨hf, hno⟩ | ⟨j, ent, hf, hj, hke⟩
  · refine .inl ⟨hf, lkL_none.2 fun p hp he => ?_⟩
    obtain ⟨i, hi⟩ := List.getElem?_of_mem hp
    have hlt : i < es.toList.length := by
      rw [E.len]
      rcases Nat.lt_or_ge i L.length with h1 | h1
      · exact h1
      · rw [List.getElem?_eq_none h1] at hi; cases hi
    have h1 := (E.at' i _ p (List.getElem?_eq_getElem hlt) hi).1
    exact hno _ (List.getElem_mem hlt) (by rw [h1, he])
  · have hlt : j < L.length := by
      rw [← E.len]
      rcases Nat.lt_or_ge j es.toList.length with h1 | h1
      · exact h1
      · rw [List.getElem?_eq_none h1] at hj; cases hj
    have hp : L[j]? = some L[j] := List.getElem?_eq_getElem hlt
    obtain ⟨h1, h2⟩ := E.at' j ent _ hj hp
    rw [hke] at h1
    have h3 : L[j].1 = x := by
      have := h1
      simp only [Value.int.injEq, true_and] at this
      exact this.symm
    refine .inr ⟨j, ent, ent.val, hf, hj, ?_, hke, rfl⟩
    rw [hp, h2, ← h3]
theorem Mv.lk_at (h : Mv w b L) {j : Nat} {x : Int} {v : Value} (hj : L[j]? = some (x, v)) : lkL L x = some v := (lkL_some h.nd).2 (List.mem_of_getElem? hj)
theorem Mv.look (h : Mv w b L) (hk : P.underlying k = some (.int .i64)) (ht : P.underlying t = some (.map k e)) {z : Value} (hz : (zeroValue e).run P w = .ok z w) {x : Int} (hx : ok64 x) :
    (Instr.lookup t (.map (some b)) (.int .i64 x) false).run P w = .ok ((lkL L x).getD z) w := by
  obtain ⟨es, cl, E⟩ := h.ex
  have K := Maps.int_keyed hk
  rcases h.find hk hx E with ⟨hf, hn⟩ | ⟨j, ent, v, hf, hj, hL, _, _⟩
  · simp [Instr.lookup, run_underlying ht, MapKept.run_getObj_map E.heap, K.check w _ (key64 hk hx), hf, hz, hn]
  · simp [Instr.lookup, run_underlying ht, MapKept.run_getObj_map E.heap, K.check w _ (key64 hk hx), hf, h.lk_at hL]
theorem Mv.look_nil (hk : P.underlying k = some (.int .i64)) (ht : P.underlying t = some (.map k e)) {z : Value} (hz : (zeroValue e).run P w = .ok z w) {x : Int} (hx : ok64 x) :
    (Instr.lookup t (.map none) (.int .i64 x) false).run P w = .ok z w := by
  have K := Maps.int_keyed hk
  rcases K.find w (key64 hk hx) [] (fun e h => by cases h) with ⟨hf, _⟩ | ⟨j, ent, _, hj, _⟩
  · simp [Instr.lookup, run_underlying ht, K.check w _ (key64 hk hx), hf, hz]
  · simp at hj
theorem Mv.len (h : Mv w b L) (ht : P.underlying t = some (.map k e)) (ty : TypeId) : (Builtin.len_ #[t] ty #[.map (some b)]).run P w = .ok (.int .i64 (L.length : Int)) w := by
  obtain ⟨es, cl, E⟩ := h.ex
  have := E.len
  have e1 : es.size = L.length := by simpa using this
  simp [Builtin.len_, run_underlying ht, MapKept.run_getObj_map E.heap, e1, goInt]
theorem setObj_map {es es' : Array MapEntry} {cl cl' : Nat} (hb : w.heap[b]? = some (.map es cl)) : ∃ w', (setObj b (.map es' cl')).run P w = .ok () w' ∧ w'.heap[b]? = some (.map es' cl') ∧ Chg (fun g => g = b) w w' := by
  have hlt : b < w.heap.size := by
    rcases Nat.lt_or_ge b w.heap.size with h1 | h1
    · exact h1
    · rw [Array.getElem?_eq_none h1] at hb; cases hb
  refine ⟨{ w with heap := w.heap.setIfInBounds b (.map es' cl') }, ?_, ?_, ⟨rfl, rfl, rfl, by simp, fun g hg hne => ?_⟩⟩
  · simp only [setObj, Sem.run]
    rw [hb]
  · show (w.heap.setIfInBounds b _)[b]? = _
    simp [hlt]
  · show (w.heap.setIfInBounds b _)[g]? = _
    rw [Array.getElem?_setIfInBounds_ne (fun e => hne e.symm)]
/-- an entry more, or another value -/
theorem Mv.put (h : Mv w b L) (hk : P.underlying k = some (.int .i64)) (ht : P.underlying t = some (.map k e)) {x : Int} (hx : ok64 x) (v : Value) :
    ∃ w' L', (Instr.mapUpdate t (.map (some b)) (.int .i64 x) v).run P w = .ok () w' ∧ Mv w' b L' ∧ Chg (fun g => g = b) w w' ∧ (∀ y, lkL L' y = if y = x then some v else lkL L y) ∧ L.length ≤ L'.length ∧ L'.length ≤ L.length + 1 := by
  obtain ⟨es, cl, E⟩ := h.ex
  have K := Maps.int_keyed hk
  have kx := key64 hk hx
  rcases h.find hk hx E with ⟨hf, hn⟩ | ⟨j, ent, u, hf, hj, hL, hke, hv⟩
  · obtain ⟨w', hr, hh, hc⟩ := setObj_map (P := P) (es' := es.push { key := .int .i64 x, val := v, born := cl }) (cl' := cl + 1) E.heap
    have hnd : ((L ++ [(x, v)]).map Prod.fst).Nodup := by
      rw [List.map_append, List.nodup_append]
      refine ⟨h.nd, by simp, fun a ha c hc' => ?_⟩
      simp at hc'
      subst hc'
      obtain ⟨p, hp, rfl⟩ := List.mem_map.1 ha
      exact fun he => lkL_none.1 hn p hp he
    refine ⟨w', L ++ [(x, v)], ?_, ⟨⟨_, _, hh, ?_, ?_, ?_, ?_⟩, hnd, ?_⟩, hc, fun y => ?_, by simp, by simp⟩
    · simp only [Instr.mapUpdate, Sem.run_bind, run_underlying ht, Result.andThen_ok, MapKept.run_getObj_map E.heap, K.check w _ kx, hf, hr]
    · have := E.len
      simp; simpa using this
    · intro i ent p hi hp
      rw [Array.toList_push] at hi
      rcases Nat.lt_or_ge i L.length with hlt | hge
      · rw [List.getElem?_append_left (by rw [E.len]; exact hlt)] at hi
        rw [List.getElem?_append_left hlt] at hp
        exact E.at' i ent p hi hp
      · rw [List.getElem?_append_right (by rw [E.len]; exact hge), E.len] at hi
        rw [List.getElem?_append_right hge] at hp
        cases hz : i - L.length with
        | zero =>
          rw [hz] at hi hp
          simp at hi hp
          subst hi hp
          exact ⟨rfl, rfl⟩
        | succ n => rw [hz] at hi; simp at hi
    · rw [Array.toList_push, List.map_append, List.nodup_append]
      refine ⟨E.born, by simp, fun a ha c hc' => ?_⟩
      simp at hc'
      subst hc'
      obtain ⟨p, hp, rfl⟩ := List.mem_map.1 ha
      exact Nat.ne_of_lt (E.old p hp)
    · intro ent he
      rw [Array.toList_push] at he
      rcases List.mem_append.1 he with he | he
      · exact Nat.lt_succ_of_lt (E.old ent he)
      · simp at he; subst he; exact Nat.lt_succ_self _
    · intro p hp
      rcases List.mem_append.1 hp with hp | hp
      · exact h.ok p hp
      · simp at hp; subst hp; exact hx
    · by_cases hy : y = x
      · rw [if_pos hy, lkL_some hnd, hy]; simp
      · rw [if_neg hy]
        cases hl : lkL L y with
        | none =>
          rw [lkL_none] at hl ⊢
          intro p hp
          rcases List.mem_append.1 hp with hp | hp
          · exact hl p hp
          · simp at hp; subst hp; exact fun e => hy e.symm
        | some u =>
          rw [lkL_some h.nd] at hl
          rw [lkL_some hnd]; simp [hl]
  · obtain ⟨w', hr, hh, hc⟩ := setObj_map (P := P) (es' := es.modify j fun e => { e with key := .int .i64 x, val := v }) (cl' := cl) E.heap
    have hjl : j < L.length := by
      rcases Nat.lt_or_ge j L.length with h1 | h1
      · exact h1
      · rw [List.getElem?_eq_none h1] at hL; cases hL
    have hmap : (L.set j (x, v)).map Prod.fst = L.map Prod.fst := by
      apply List.ext_getElem?
      intro i
      rw [List.getElem?_map, List.getElem?_map]
      by_cases hij : i = j
      · subst hij; rw [List.getElem?_set_self hjl, hL]; rfl
      · rw [List.getElem?_set_ne (Ne.symm hij)]
    have hnd : ((L.set j (x, v)).map Prod.fst).Nodup := by rw [hmap]; exact h.nd
    have hborn : (es.modify j fun e => { e with key := .int .i64 x, val := v }).toList.map (·.born) = es.toList.map (·.born) := by
      apply List.ext_getElem?
      intro i
      rw [List.getElem?_map, List.getElem?_map, Array.toList_modify, List.getElem?_modify]
      by_cases hij : j = i
      · subst hij; rw [hj]; simp
      · simp [hij]
    have hek : (((es[j]?).map (·.key)).getD (.int .i64 x)) = .int .i64 x := by
      have : es[j]? = some ent := by simpa using hj
      rw [this]; exact hke
    refine ⟨w', L.set j (x, v), ?_, ⟨⟨_, _, hh, ?_, ?_, ?_, ?_⟩, hnd, ?_⟩, hc, fun y => ?_, by simp, by simp⟩
    · simp only [Instr.mapUpdate, Sem.run_bind, run_underlying ht, Result.andThen_ok, MapKept.run_getObj_map E.heap, K.check w _ kx, hf]
      rw [hek, K.stays w kx]
      simp only [Result.andThen_ok, hr]
    · have := E.len
      simp; simpa using this
    · intro i e2 p hi hp
      rw [Array.toList_modify, List.getElem?_modify] at hi
      by_cases hij : j = i
      · subst hij
        rw [List.getElem?_set_self hjl] at hp
        rw [hj] at hi
        simp at hi hp
        subst hi hp
        exact ⟨rfl, rfl⟩
      · rw [List.getElem?_set_ne hij] at hp
        simp [hij] at hi
        exact E.at' i e2 p (by simpa using hi) hp
    · rw [hborn]; exact E.born
    · intro e2 he
      have : e2.born ∈ (es.modify j fun e => { e with key := .int .i64 x, val := v }).toList.map (·.born) := List.mem_map.2 ⟨e2, he, rfl⟩
      rw [hborn] at this
      obtain ⟨e3, h3, h4⟩ := List.mem_map.1 this
      rw [← h4]; exact E.old e3 h3
    · intro p hp
      rcases List.mem_or_eq_of_mem_set hp with hp | rfl
      · exact h.ok p hp
      · exact hx
    · by_cases hy : y = x
      · rw [if_pos hy, lkL_some hnd, hy]
        exact List.mem_of_getElem? (List.getElem?_set_self hjl)
      · rw [if_neg hy]
        cases hl : lkL L y with
        | none =>
          rw [lkL_none] at hl ⊢
          intro p hp
          rcases List.mem_or_eq_of_mem_set hp with hp | rfl
          · exact hl p hp
          · exact fun e => hy e.symm
        | some u' =>
          rw [lkL_some h.nd] at hl
          rw [lkL_some hnd]
          obtain ⟨i, hi⟩ := List.getElem?_of_mem hl
          have hij : j ≠ i := fun e => by
            subst e; rw [hL] at hi; cases hi; exact hy rfl
          exact List.mem_of_getElem? ((List.getElem?_set_ne hij).trans hi)
/-- an entry less -/
theorem Mv.drop (h : Mv w b L) (hk : P.underlying k = some (.int .i64)) (ht : P.underlying t = some (.map k e)) {x : Int} (hx : ok64 x) (ty : TypeId) :
    ∃ w' L', (Builtin.delete_ #[t, k] ty #[.map (some b), .int .i64 x]).run P w = .ok (.tuple #[]) w' ∧ Mv w' b L' ∧ Chg (fun g => g = b) w w' ∧ (∀ y, lkL L' y = if y = x then none else lkL L y) ∧ L'.length + (if lkL L x = none then 0 else 1) = L.length := by
  obtain ⟨es, cl, E⟩ := h.ex
  have K := Maps.int_keyed hk
  have kx := key64 hk hx
  rcases h.find hk hx E with ⟨hf, hn⟩ | ⟨j, ent, u, hf, hj, hL, hke, hv⟩
  · obtain ⟨w', hr, hh, hc⟩ := setObj_map (P := P) (es' := es) (cl' := cl) E.heap
    refine ⟨w', L, ?_, ⟨⟨_, _, { E with heap := hh }⟩, h.nd, h.ok⟩, hc, fun y => ?_, by rw [if_pos hn]; rfl⟩
    · simp [Builtin.delete_, run_underlying ht, MapKept.run_getObj_map E.heap, K.check w _ kx, hf, hr]
    · by_cases hy : y = x
      · rw [if_pos hy, hy]; exact hn
      · rw [if_neg hy]
  · obtain ⟨w', hr, hh, hc⟩ := setObj_map (P := P) (es' := es.eraseIdxIfInBounds j) (cl' := cl) E.heap
    have hjl : j < L.length := by
      rcases Nat.lt_or_ge j L.length with h1 | h1
      · exact h1
      · rw [List.getElem?_eq_none h1] at hL; cases hL
    have hl := E.len
    have hel : (es.eraseIdxIfInBounds j).toList = es.toList.eraseIdx j := by
      have hjs : j < es.size := by rw [← hl] at hjl; simpa using hjl
      rw [Array.eraseIdxIfInBounds, dif_pos hjs, Array.toList_eraseIdx]
    have hnd : ((L.eraseIdx j).map Prod.fst).Nodup := h.nd.sublist ((List.eraseIdx_sublist L j).map Prod.fst)
    refine ⟨w', L.eraseIdx j, ?_, ⟨⟨_, _, hh, ?_, ?_, ?_, ?_⟩, hnd, ?_⟩, hc, fun y => ?_, ?_⟩
    · simp [Builtin.delete_, run_underlying ht, MapKept.run_getObj_map E.heap, K.check w _ kx, hf, hr]
    · rw [hel, List.length_eraseIdx_of_lt (by omega), List.length_eraseIdx_of_lt hjl]; omega
    · intro i e2 p hi hp
      rw [hel, List.getElem?_eraseIdx] at hi
      rw [List.getElem?_eraseIdx] at hp
      split at hi
      · rename_i hij
        rw [if_pos hij] at hp
        exact E.at' i e2 p hi hp
      · rename_i hij
        rw [if_neg hij] at hp
        exact E.at' _ e2 p hi hp
    · rw [hel]
      exact E.born.sublist ((List.eraseIdx_sublist es.toList j).map (·.born))
    · intro e2 he
      rw [hel] at he
      exact E.old e2 (List.mem_of_mem_eraseIdx he)
    · intro p hp
      exact h.ok p (List.mem_of_mem_eraseIdx hp)
    · by_cases hy : y = x
      · rw [if_pos hy, lkL_none]
        intro p hp he
        rw [hy] at he
        obtain ⟨i, hi⟩ := List.getElem?_of_mem hp
        rw [List.getElem?_eraseIdx] at hi
        have hdup : ∀ (a c : Nat) (p q : KV), L[a]? = some p → L[c]? = some q → p.1 = q.1 → a = c := fun a c p q ha hc' hpq => by
          have h1 : (L.map Prod.fst)[a]? = some p.1 := by rw [List.getElem?_map, ha]; rfl
          have h2 : (L.map Prod.fst)[c]? = some p.1 := by rw [List.getElem?_map, hc', hpq]; rfl
          have hla : a < (L.map Prod.fst).length := by
            rcases Nat.lt_or_ge a (L.map Prod.fst).length with h | h
            · exact h
            · rw [List.getElem?_eq_none h] at h1; cases h1
          exact (List.getElem?_inj hla h.nd).1 (h1.trans h2.symm)
        split at hi
        · rename_i hij
          have := hdup i j p (x, u) hi hL he
          omega
        · rename_i hij
          have := hdup (i + 1) j p (x, u) hi hL he
          omega
      · rw [if_neg hy]
        cases hl2 : lkL L y with
        | none =>
          rw [lkL_none] at hl2 ⊢
          exact fun p hp => hl2 p (List.mem_of_mem_eraseIdx hp)
        | some u' =>
          rw [lkL_some h.nd] at hl2
          rw [lkL_some hnd]
          obtain ⟨i, hi⟩ := List.getElem?_of_mem hl2
          have hij : j ≠ i := fun e => by
            subst e; rw [hL] at hi; cases hi; exact hy rfl
          rcases Nat.lt_or_gt_of_ne hij with hlt | hgt
          · refine List.mem_of_getElem? (i := i - 1) ?_
            rw [List.getElem?_eraseIdx, if_neg (by omega), show i - 1 + 1 = i by omega]; exact hi
          · refine List.mem_of_getElem? (i := i) ?_
            rw [List.getElem?_eraseIdx, if_pos (by omega)]; exact hi
    · rw [h.lk_at hL, if_neg (by simp), List.length_eraseIdx_of_lt hjl]; omega
/-! ## rounds: in whatever order -/
/-- an iterator in block r over the map in block b, its pairs L, of which those in S were met -/
structure It (w : World) (r b : Nat) (L : List KV) (S : List Int) : Prop where
  ex : ∃ es clock since seen last, MvE w b L es clock ∧ w.heap[r]? = some (.mapIter (some b) since seen last) ∧ since ≤ last ∧ since ≤ clock ∧ (∀ e ∈ es.toList, e.born < since) ∧ (∀ e ∈ es.toList, ∀ x, e.key = .int .i64 x → (e.born ∈ seen.toList ↔ x ∈ S)) ∧ seen.size = S.length
  map : Mv w b L
  nd : S.Nodup
  sub : ∀ x ∈ S, ∃ p ∈ L, p.1 = x
/-- the iterator stands at x -/
def ItAt (w : World) (r b : Nat) (x : Int) : Prop := ∃ es clock since seen e, w.heap[b]? = some (.map es clock) ∧ w.heap[r]? = some (.mapIter (some b) since seen clock) ∧ seen.back? = some e ∧ ∃ ent, es.find? (·.born == e) = some ent ∧ ent.key = .int .i64 x
theorem It.lt {r : Nat} {S : List Int} (h : It w r b L S) : r < w.heap.size := by
  obtain ⟨_, _, _, _, _, _, hr, _⟩ := h.ex
  rcases Nat.lt_or_ge r w.heap.size with h1 | h1
  · exact h1
  · rw [Array.getElem?_eq_none h1] at hr; cases hr
theorem It.chg {r : Nat} {S : List Int} (h : It w r b L S) {T : Nat → Prop} (c : Chg T w w') (hr : ¬ T r) (hb : ¬ T b) : It w' r b L S := by
  have l1 := h.lt
  have l2 := h.map.lt
  obtain ⟨es, cl, since, seen, last, E, hh, h1, h2, h3⟩ := h.ex
  exact ⟨⟨es, cl, since, seen, last, { E with heap := (c.block b l2 hb).trans E.heap }, (c.block r l1 hr).trans hh, h1, h2, h3⟩, h.map.chg c hb, h.nd, h.sub⟩
/-- how many an iterator has handed out -/
def seenN (w : World) (r : Nat) : Nat := (w.iterSeen r).size
theorem It.seen {r : Nat} {S : List Int} (h : It w r b L S) : seenN w r = S.length := by
  obtain ⟨_, _, _, seen, _, _, hr, _, _, _, _, hs⟩ := h.ex
  unfold seenN World.iterSeen
  rw [hr]; exact hs
theorem It.nmap {r : Nat} {S : List Int} (h : It w r b L S) {b' : Nat} {L' : List KV} (h' : Mv w b' L') : b' ≠ r := fun e => by
  obtain ⟨_, _, _, _, _, _, hr, _⟩ := h.ex
  obtain ⟨es, cl, E⟩ := h'.ex
  have := E.heap
  rw [e, hr] at this; cases this
/-- not more were met than there are -/
theorem It.le {r : Nat} {S : List Int} (h : It w r b L S) : S.length ≤ L.length := by
  have : S.length ≤ (L.map Prod.fst).length := by
    refine List.Nodup.length_le_of_subset h.nd fun x hx => ?_
    obtain ⟨p, hp, rfl⟩ := h.sub x hx
    exact List.mem_map.2 ⟨p, hp, rfl⟩
  simpa using this
end
section
variable {P : Program} {k t e : TypeId} {w w' : World} {b : Nat} {L : List KV}
theorem Mv.range (h : Mv w b L) (ht : P.underlying t = some (.map k e)) {C : Option Addr → World → Prop} (hC : ∀ w', It w' w.heap.size b L [] → Chg none_ w w' → w'.heap.size = w.heap.size + 1 → C (some ⟨w.heap.size, 0, none⟩) w') :
    ∃ (p : Option Addr) (w' : World), (Instr.range t (.map (some b))).run P w = .ok (.pointer p) w' ∧ C p w' := by
  have hlt := h.lt
  obtain ⟨es, cl, E⟩ := h.ex
  have k1 : Chg none_ w (w.alloc (.mapIter (some b) cl #[] cl)) := (Chg.refl none_ w).alloc _
  refine ⟨_, _, run_range_map w t k e b es cl ht E.heap, hC _ ⟨⟨es, cl, cl, #[], cl, { E with heap := (k1.block b hlt fun x => x).trans E.heap }, heap_alloc_new w _, Nat.le_refl _, Nat.le_refl _, E.old, (fun e _ x _ => by simp), rfl⟩, h.chgN k1, List.nodup_nil, fun x hx => by cases hx⟩ k1 ?_⟩
  show (w.heap.push _).size = _
  simp
theorem setObj_any {m' : Option Nat} {a1 c1 : Nat} {s1 : Array Nat} {o' : Obj} {r : Nat} (hb : w.heap[r]? = some (.mapIter m' a1 s1 c1)) : ∃ w', (setObj r o').run P w = .ok () w' ∧ w'.heap[r]? = some o' ∧ Chg (fun g => g = r) w w' := by
  have hlt : r < w.heap.size := by
    rcases Nat.lt_or_ge r w.heap.size with h1 | h1
    · exact h1
    · rw [Array.getElem?_eq_none h1] at hb; cases hb
  refine ⟨{ w with heap := w.heap.setIfInBounds r o' }, ?_, ?_, ⟨rfl, rfl, rfl, by simp, fun g hg hne => ?_⟩⟩
  · simp only [setObj, Sem.run]
    rw [hb]
  · show (w.heap.setIfInBounds r _)[r]? = _
    simp [hlt]
  · show (w.heap.setIfInBounds r _)[g]? = _
    rw [Array.getElem?_setIfInBounds_ne (fun e => hne e.symm)]
theorem MvE.pair {es : Array MapEntry} {cl : Nat} (E : MvE w b L es cl) {ent : MapEntry} (he : ent ∈ es.toList) : ∃ x v, ent.key = .int .i64 x ∧ ent.val = v ∧ (x, v) ∈ L := by
  obtain ⟨i, hi⟩ := List.getElem?_of_mem he
  have hlt : i < L.length := by
    rw [← E.len]
    rcases Nat.lt_or_ge i es.toList.length with h1 | h1
    · exact h1
    · rw [List.getElem?_eq_none h1] at hi; cases hi
  have hp : L[i]? = some L[i] := List.getElem?_eq_getElem hlt
  obtain ⟨h1, h2⟩ := E.at' i ent _ hi hp
  exact ⟨_, _, h1, h2, List.getElem_mem hlt⟩
theorem MvE.ent {es : Array MapEntry} {cl : Nat} (E : MvE w b L es cl) {p : KV} (hp : p ∈ L) : ∃ ent ∈ es.toList, ent.key = .int .i64 p.1 ∧ ent.val = p.2 := by
  obtain ⟨i, hi⟩ := List.getElem?_of_mem hp
  have hlt : i < es.toList.length := by
    rw [E.len]
    rcases Nat.lt_or_ge i L.length with h1 | h1
    · exact h1
    · rw [List.getElem?_eq_none h1] at hi; cases hi
  exact ⟨_, List.getElem_mem hlt, E.at' i _ p (List.getElem?_eq_getElem hlt) hi⟩
/-- entries of one key are one -/
theorem MvE.one {es : Array MapEntry} {cl : Nat} (E : MvE w b L es cl) (nd : (L.map Prod.fst).Nodup) {e1 e2 : MapEntry} {x : Int} (h1 : e1 ∈ es.toList) (h2 : e2 ∈ es.toList) (k1 : e1.key = .int .i64 x) (k2 : e2.key = .int .i64 x) : e1 = e2 := by
  obtain ⟨i, hi⟩ := List.getElem?_of_mem h1
  obtain ⟨j, hj⟩ := List.getElem?_of_mem h2
  have lt : ∀ {i : Nat} {e : MapEntry}, es.toList[i]? = some e → i < L.length := fun {i e} h => by
    rw [← E.len]
    rcases Nat.lt_or_ge i es.toList.length with h1 | h1
    · exact h1
    · rw [List.getElem?_eq_none h1] at h; cases h
  have key : ∀ {i : Nat} {e : MapEntry}, es.toList[i]? = some e → e.key = .int .i64 x → (L.map Prod.fst)[i]? = some x := fun {i e} h hk => by
    have hl := lt h
    have h1 := (E.at' i e _ h (List.getElem?_eq_getElem hl)).1
    rw [hk] at h1
    simp only [Value.int.injEq, true_and] at h1
    rw [List.getElem?_map, List.getElem?_eq_getElem hl, h1]; rfl
  have := (List.getElem?_inj (by simpa using lt hi) nd).1 ((key hi k1).trans (key hj k2).symm)
  subst this
  rw [hi] at hj
  exact Option.some.inj hj
theorem It.next {r : Nat} {S : List Int} (h : It w r b L S) (ty : TypeId) : ((∀ p ∈ L, p.1 ∈ S) ∧ (Instr.next (.pointer (some ⟨r, 0, none⟩)) false ty).run P w = .ok (nextV none) w) ∨
    ∃ x v w', (x, v) ∈ L ∧ x ∉ S ∧ (Instr.next (.pointer (some ⟨r, 0, none⟩)) false ty).run P w = .ok (nextV (some (.int .i64 x, v))) w' ∧ It w' r b L (x :: S) ∧ ItAt w' r b x ∧ Chg (fun g => g = r) w w' := by
  obtain ⟨es, clock, since, seen, last, E, hr, hsl, hsc, hold, hseen, hsz⟩ := h.ex
  have hbr : b ≠ r := fun e => by
    have h1 := E.heap
    rw [e, hr] at h1; cases h1
  have hL : ∀ ent ∈ (leftOf es seen).toList, ent ∈ es.toList ∧ ent.born ∉ seen.toList := fun ent he => by
    unfold leftOf at he
    simp at he
    exact ⟨by simpa using he.1, by simpa using he.2⟩
  have hL' : ∀ ent ∈ es.toList, ent.born ∉ seen.toList → ent ∈ (leftOf es seen).toList := fun ent h1 h2 => by
    unfold leftOf
    simp
    exact ⟨by simpa using h1, by simpa using h2⟩
  have hrun : (Instr.next (.pointer (some ⟨r, 0, none⟩)) false ty).run P w =
      (let left := leftOf es seen
       (do match ((if left.isEmpty then #[none] else #[]) ++ left.map some)[← choose (.mapNext ((if left.isEmpty then #[none] else #[]) ++ left.map some).size)]? with
          | some (some e) => do
            setObj r (.mapIter (some b) since (seen.push e.born) clock)
            pure (.tuple #[.bool true, e.key, e.val])
          | some none => pure (.tuple #[.bool false])
          | none => stuck "Next: no such candidate" : Sem Value).run P w) := by
    simp only [Instr.next, getObj, Sem.run_bind, Sem.run, hr, E.heap, Result.andThen, next_test_false seen es since last hold hsl, Bool.false_eq_true, if_false]
    unfold leftOf
    have hmem : ∀ x ∈ (Array.filter (fun e => !seen.contains e.born) es).toList, x.born < since := fun x hx => hold x (by simp at hx ⊢; exact hx.1)
    generalize Array.filter (fun e => !seen.contains e.born) es = L at hmem ⊢
    have e1 : L.filter (fun x => decide (x.born < since)) = L := Array.filter_eq_self.2 (fun x hx => by simpa using hmem x (by simpa using hx))
    have e2 : L.filter (fun x => decide (x.born ≥ since)) = #[] := by
      rw [Array.filter_eq_empty_iff]
      intro x hx
      have := hmem x (by simpa using hx)
      simp
      omega
    simp only [e1, e2, Array.append_empty]
    rfl
  rw [hrun]
  simp only []
  generalize hlf : leftOf es seen = lf at hL hL'
  by_cases h0 : lf.size = 0
  · left
    have : lf = #[] := Array.eq_empty_of_size_eq_zero h0
    subst this
    refine ⟨fun p hp => ?_, ?_⟩
    · obtain ⟨ent, he, hk, _⟩ := E.ent hp
      by_cases hs : ent.born ∈ seen.toList
      · exact (hseen ent he p.1 hk).1 hs
      · exact absurd (hL' ent he hs) (by simp)
    · simp [choose, Sem.run, Question.forced, nextV]
  · right
    have hne : lf.isEmpty = false := by simp [Array.isEmpty, h0]
    simp only [hne, Bool.false_eq_true, if_false, Array.empty_append, Array.size_map]
    have hch : ∃ (j : Nat) (w1 : World), j < lf.size ∧ w1.heap = w.heap ∧ Chg none_ w w1 ∧ (choose (Question.mapNext lf.size)).run P w = .ok j w1 := by
      by_cases hf : lf.size ≤ 1
      · exact ⟨0, w, by omega, rfl, Chg.refl _ _, by simp [choose, Sem.run, Question.forced, hf]⟩
      · exact ⟨_, w.drew, Nat.mod_lt _ (by omega), rfl, (Chg.refl none_ w).drew, by
          simp only [choose, Sem.run, Question.forced, decide_eq_true_eq, hf, if_false, Question.cut]
          rfl⟩
    obtain ⟨j, w1, hj, hheap, k1, hc⟩ := hch
    have hjm : lf[j] ∈ lf.toList := by simp
    obtain ⟨hin, hnot⟩ := hL _ hjm
    obtain ⟨x, v, hk, hv, hxL⟩ := E.pair hin
    have hr1 : w1.heap[r]? = some (.mapIter (some b) since seen last) := by rw [hheap]; exact hr
    obtain ⟨w2, hs, hh, hch⟩ := setObj_any (P := P) (o' := .mapIter (some b) since (seen.push lf[j].born) clock) hr1
    have k2 : Chg (fun g => g = r) w w2 := (k1.mono fun _ _ h => h.elim).trans' hch fun g hg => .inl hg
    have E2 : MvE w2 b L es clock := { E with heap := (k2.block b h.map.lt hbr).trans E.heap }
    have hxS : x ∉ S := fun hx => hnot ((hseen _ hin x hk).2 hx)
    refine ⟨x, v, w2, hxL, hxS, ?_, ⟨⟨es, clock, since, seen.push lf[j].born, clock, E2, hh, hsc, hsc, hold, ?_, by simp [hsz]⟩, h.map.chg k2 hbr, List.nodup_cons.2 ⟨hxS, h.nd⟩, ?_⟩, ⟨es, clock, since, seen.push lf[j].born, lf[j].born, E2.heap, hh, by simp, lf[j], ?_, hk⟩, k2⟩
    · simp only [hc, Array.getElem?_map, Array.getElem?_eq_getElem hj, Option.map_some, Sem.run_bind, hs, Result.andThen, Sem.run_pure, nextV, hk, hv]
    · intro e2 he2 y hy
      rw [Array.toList_push, List.mem_append, List.mem_singleton, List.mem_cons, hseen e2 he2 y hy]
      constructor
      · rintro (h1 | h1)
        · exact .inr h1
        · have : e2 = lf[j] := by
            have f1 := find_born lf[j] es.toList E.born hin
            have f2 := find_born e2 es.toList E.born he2
            rw [h1, f1] at f2
            exact (Option.some.inj f2).symm
          subst this
          rw [hk] at hy
          simp only [Value.int.injEq, true_and] at hy
          exact .inl hy.symm
      · rintro (h1 | h1)
        · subst h1
          right
          rw [E.one h.map.nd he2 hin hy hk]
        · exact .inl h1
    · intro y hy
      rcases List.mem_cons.1 hy with rfl | hy
      · exact ⟨_, hxL, rfl⟩
      · exact h.sub y hy
    · rw [← Array.find?_toList]; exact find_born _ _ E.born hin
theorem It.entry {r : Nat} {S : List Int} (h : It w r b L S) {x : Int} (a : ItAt w r b x) : ∃ v, (x, v) ∈ L ∧ (Instr.entry (.pointer (some ⟨r, 0, none⟩))).run P w = .ok (.tuple #[.int .i64 x, v]) w := by
  obtain ⟨es, cl, since, seen, e, hb, hr, hback, ent, hf, hk⟩ := a
  obtain ⟨es', cl', E⟩ := h.map.ex
  have h1 := E.heap
  rw [hb] at h1
  cases h1
  have hin : ent ∈ es.toList := by
    have := Array.mem_of_find?_eq_some hf
    simpa using this
  obtain ⟨y, v, hy, hv, hL⟩ := E.pair hin
  rw [hk] at hy
  simp only [Value.int.injEq, true_and] at hy
  subst hy
  refine ⟨v, hL, ?_⟩
  simp only [Instr.entry, getObj, Sem.run_bind, Sem.run, hr, hb, Result.andThen, hback, bne_self_eq_false, Bool.false_eq_true, if_false, hf, hk, hv]
  rfl
end
end Go.Vc
