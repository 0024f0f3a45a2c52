import Derived.ProofKit
import Derived.Lib.SmallJoins
import Derived.OpenShut
import Derived.JoinedCond
import Derived.Test.YtibpbbjlecohiaaHp
/-! From 'every call returns true and changes no old block' to the row: no argument is read anew by hand. -/
namespace Go.Vc
open Go.RowKit Go.ChangeShapes Go.WideShapes Go.ChangeAt

section
variable {H : Type} {enc : TypeId × Value → H} {P : Program}
theorem trodAll_stays (hl : laidOutB P = true) {W W' : World} {sp : Nat → Bool} : ∀ {ts : List TypeId} {vs : List Value} {ds : List (DataW H)} {ps : List MemPlace},
    (ts.all fun t => P.readableRec t && decide (t < P.types.size)) = true → DataW.TrodAll enc P W 0 (fun _ => true) true ts vs ds ps → (∀ x ∈ ps, W.sameAt W' x) → (∀ x ∈ ps, sp x.block = true) → DataW.TrodAll enc P W' 0 sp true ts vs ds ps
  | [], vs, ds, ps, _, h, _, _ => by
    obtain ⟨rfl, rfl, rfl⟩ := trodAll_nil h
    exact trodAll_mk0
  | t :: ts, vs, ds, ps, hr, h, hs, hsp => by
    obtain ⟨v, vs', d, ds', p, q, rfl, rfl, rfl, h1, h2⟩ := trodAll_cons h
    simp only [List.all_cons, Bool.and_eq_true, decide_eq_true_eq] at hr
    exact trodAll_cons_mk (WideElems.Trod_stays hl hr.1.1 hr.1.2 h1 (fun x hx => hs x (by simp [hx])) (fun x hx => hsp x (by simp [hx])))
      (trodAll_stays hl (by simpa using hr.2) h2 (fun x hx => hs x (by simp [hx])) (fun x hx => hsp x (by simp [hx])))

/-- THE ROW's LAST STEP of a law without named variables: true comes back, below the old heap's size nothing has turned. -/
theorem post_true {f : Func} {s : ChangeSpec} {apart fresh handsOn again : Bool} {W W' : World} {args : Array Value} {ds gs : List (DataW H)} {before : List MemPlace} {tb : TypeId}
    (hl : laidOutB P = true) (hr : (f.params.toList.all fun t => P.readableRec t && decide (t < P.types.size)) = true) (hrt : f.resultTypes = #[tb]) (hbo : P.underlying tb = some .bool) (hvars : s.vars = [])
    (hW : DataW.Whole enc P f.params.toList s.vars apart W args.toList ds gs before)
    (hsp : (s.fn H (ds ++ gs)).results = [.lit (.bool true)] ∧ (s.fn H (ds ++ gs)).args = ds ∧ (s.fn H (ds ++ gs)).vars = [])
    (hb : Below W.heap.size W W') : s.post enc P f apart fresh handsOn again W args (.bool true) W' := by
  have hlt : ∀ p ∈ before, p.block < W.heap.size := fun p hp => hW.lt p hp
  have hW' := hW
  obtain ⟨p, q, hA, hV, he, hz, hn⟩ := hW
  rw [hvars] at hV
  obtain ⟨rfl, rfl⟩ := trodVars_none hV
  rw [List.append_nil] at he
  subst he
  have hok : ∀ (j : Nat) (t : TypeId) (r : Value), f.resultTypes[j]? = some t → ((Value.bool true).resultList f.resultTypes.size)[j]? = some r → Value.okWide P W' .any 0 t r := ok_one hrt rfl (okWide_bool_mk hbo _)
  have hres : ∀ (b : Nat) (sp : Nat → Bool) (hd : Bool), DataW.TrodAll enc P W' b sp hd f.resultTypes.toList ((Value.bool true).resultList f.resultTypes.size) (s.fn H (ds ++ [])).results [] := fun b sp hd => by
    rw [hsp.1, hrt]
    exact trodAll_mk1 (shut_bool hbo _)
  have hargs : ∀ sp : Nat → Bool, (∀ x ∈ before, sp x.block = true) → DataW.TrodAll enc P W' 0 sp true f.params.toList args.toList (s.fn H (ds ++ [])).args before := fun sp h => by
    rw [hsp.2.1]
    exact trodAll_stays hl hr hA (fun x hx => hb.same (hlt x hx)) h
  have hvr : ∀ sp : Nat → Bool, DataW.TrodVars enc P W' sp s.vars (s.fn H (ds ++ [])).vars [] := fun sp => by
    rw [hsp.2.2, hvars]; rfl
  refine ⟨ds, [], before, [], before, [], hW', hres _ _ _, hargs _ (fun x hx => by simpa using hlt x hx), hvr _, World.keptBut_mono (fun x hx => ⟨hx, by simp [hx]⟩) (hb.frame (· ∈ before)), fun _ => ?_⟩
  refine ⟨hok, _, _, ([] ++ before) ++ [], ⟨[] ++ before, [], trodAll_append (hargs _ (fun _ _ => rfl)) (hres _ _ _), hvr _, rfl, ?_, ?_⟩, ?_⟩
  · intro b off hp
    have hin : MemPlace.cell b off ∈ before := by simpa using hp
    rw [hb.frozen (hlt _ hin)]
    exact hz b off hin
  · intro ha
    simpa using hn ha
  · intro x hx _
    simpa using hx
end

/-! # what a reading says of the cells: their kinds -/
def flatF (P : Program) (rec : TypeId → Option (List Kd)) : List Field → Nat → Nat → Option (List Kd)
  | [], o, e => if o = e then some [] else none
  | f :: fs, o, e => if f.offset = o then match rec f.type with
    | some a => if a.length = P.cellsOf f.type then match flatF P rec fs (o + a.length) e with
      | some b => some (a ++ b)
      | none => none
      else none
    | none => none
    else none
def flatK (P : Program) : Nat → TypeId → Option (List Kd)
  | 0, _ => none
  | m + 1, t => match P.underlying t with
    | some (.int k) => some [.int k]
    | some .bool => some [.bool]
    | some .string => some [.str]
    | some (.slice _) => some [.sl]
    | some (.struct fs) => flatF P (flatK P m) fs.toList 0 (P.cellsOf t)
    | _ => none
def isK : Kd → Value → Prop
  | .int k, v => ∃ n : Int, v = .int k n ∧ (Lit.int k n).wf = true
  | .bool, v => ∃ b, v = .bool b
  | .str, v => ∃ s : ByteArray, v = .string s ∧ s.size ≤ maxLen
  | .sl, v => ∃ p n c, v = .slice p n c
  | _, _ => False
def areK : List Kd → List Value → Prop
  | [], [] => True
  | k :: ks, v :: vs => isK k v ∧ areK ks vs
  | _, _ => False
theorem isK_ex : ∀ {k : Kd} {v : Value} {C : Value → Prop}, isK k v → C v → exKd k C
  | .int _, _, _, ⟨n, h, _⟩, hC => ⟨n, h ▸ hC⟩
  | .bool, _, _, ⟨n, h⟩, hC => ⟨n, h ▸ hC⟩
  | .str, _, _, ⟨n, h, _⟩, hC => ⟨n, h ▸ hC⟩
  | .sl, _, _, ⟨p, n, c, h⟩, hC => ⟨p, n, c, h ▸ hC⟩
  | .ptr, _, _, h, _ => h.elim
  | .map, _, _, h, _ => h.elim
  | .any, _, _, h, _ => h.elim
  | .fn _, _, _, h, _ => h.elim
theorem areK_ex : ∀ {ks : List Kd} {vs : List Value} {C : List Value → Prop}, areK ks vs → C vs → exKs ks C
  | [], [], _, _, h => h
  | [], _ :: _, _, h, _ => h.elim
  | _ :: _, [], _, h, _ => h.elim
  | _ :: _, _ :: _, _, h, k => isK_ex h.1 (areK_ex h.2 k)
theorem areK_append : ∀ {a b : List Kd} {u v : List Value}, areK a u → areK b v → areK (a ++ b) (u ++ v)
  | [], _, [], _, _, h => h
  | [], _, _ :: _, _, h, _ => h.elim
  | _ :: _, _, [], _, h, _ => h.elim
  | _ :: _, _, _ :: _, _, h, k => ⟨h.1, areK_append h.2 k⟩
section
variable {H : Type} {enc : TypeId × Value → H} {P : Program} {w : World} {base : Nat} {spare : Nat → Bool} {held : Bool}
theorem flatF_ok {rec : TypeId → Option (List Kd)} {cs : List Value} (hrec : ∀ t ks us, rec t = some ks → (∃ n y, DataW.trod enc P w base spare held n t us = some y) → areK ks us) :
    ∀ (fs : List Field) (o : Nat) (ks : List Kd), flatF P rec fs o cs.length = some ks → (∀ f ∈ fs, ∃ n y, DataW.trod enc P w base spare held n f.type ((cs.drop f.offset).take (P.cellsOf f.type)) = some y) → areK ks (cs.drop o)
  | [], o, ks, h, _ => by
    simp only [flatF] at h
    split at h
    · cases h; subst o; simp [areK]
    · cases h
  | f :: fs, o, ks, h, hf => by
    simp only [flatF] at h
    split at h
    · rename_i ho
      split at h
      · rename_i a ha
        split at h
        · rename_i hl
          split at h
          · rename_i b hb
            cases h
            have h1 := hrec _ _ _ ha (hf f (by simp))
            have h2 := flatF_ok hrec fs _ _ hb (fun g hg => hf g (by simp [hg]))
            rw [ho, ← hl] at h1
            have := areK_append h1 h2
            rwa [← List.drop_drop, List.take_append_drop] at this
          · cases h
        · cases h
      · cases h
    · cases h
theorem flatK_ok : ∀ (m : Nat) (t : TypeId) (ks : List Kd) (cs : List Value), flatK P m t = some ks → (∃ n y, DataW.trod enc P w base spare held n t cs = some y) → areK ks cs
  | 0, _, _, _, h, _ => by cases h
  | m + 1, t, ks, cs, h, hy => by
    obtain ⟨n, y, hy⟩ := hy
    simp only [flatK] at h
    split at h
    · rename_i k hu
      cases h
      obtain ⟨a, rfl, _, hw⟩ := DataW.trod_int hu hy
      exact ⟨⟨a, rfl, hw⟩, trivial⟩
    · rename_i hu
      cases h
      obtain ⟨a, rfl, _⟩ := DataW.trod_bool hu hy
      exact ⟨⟨a, rfl⟩, trivial⟩
    · rename_i hu
      cases h
      obtain ⟨a, rfl, _, hs⟩ := DataW.trod_string hu hy
      exact ⟨⟨a, rfl, hs⟩, trivial⟩
    · rename_i e hu
      cases h
      obtain ⟨a, l, c, rfl⟩ := Go.Joins.slice_form hu hy
      exact ⟨⟨a, l, c, rfl⟩, trivial⟩
    · rename_i fs hu
      obtain ⟨xs, n', rfl, rfl, hl, hlen, hx⟩ := DataW.trod_struct hu hy
      rw [← hl] at h
      have := flatF_ok (cs := cs) (fun t ks us h1 h2 => flatK_ok m t ks us h1 h2) fs.toList 0 ks h (fun f hf => by
        obtain ⟨i, hi, rfl⟩ := List.getElem_of_mem hf
        have h3 := hx i fs.toList[i] (by simp [Array.getElem?_eq_getElem (show i < fs.size by simpa using hi)])
        have hi2 : i < xs.length := by rw [hlen]; simpa using hi
        rw [List.getElem?_eq_getElem hi2] at h3
        exact ⟨n', _, h3⟩)
      simpa using this
    · cases h
/-- a struct handed by value: its cells are of these kinds -/
theorem kinds_agg {r : Reach} {b0 : Nat} {t : TypeId} {fs : Array Field} {v : Value} {d : DataW H} {p : List MemPlace} (hs : P.underlying t = some (.struct fs)) (hv : Value.okWide P w r b0 t v) (h : DataW.Trod enc P w base spare held t v d p)
    (m : Nat) {ks : List Kd} (hk : flatK P m t = some ks) : ∃ cs : List Value, v = .agg cs.toArray ∧ areK ks cs := by
  obtain ⟨cs, rfl, _⟩ := okWide_struct hs hv
  obtain ⟨n, hn⟩ := h
  exact ⟨cs.toList, by simp, flatK_ok m t ks _ hk ⟨n, _, hn⟩⟩
theorem kinds_agg' {r : Reach} {b0 : Nat} {t : TypeId} {fs : Array Field} {v : Value} {d : DataW H} {p : List MemPlace} (hs : P.underlying t = some (.struct fs)) (hv : Value.okWide P w r b0 t v) (h : DataW.Trod enc P w base spare held t v d p)
    (m : Nat) {ks : List Kd} (hk : flatK P m t = some ks) : exKs ks fun cs => v = .agg cs.toArray := by
  obtain ⟨cs, e, hc⟩ := kinds_agg hs hv h m hk
  exact areK_ex hc e
theorem field_trod {t : TypeId} {fs : Array Field} {cs : List Value} {d : DataW H} {p : List MemPlace} (hs : P.underlying t = some (.struct fs)) (h : DataW.Trod enc P w base spare held t (.agg cs.toArray) d p) {i : Nat} {f : Field} (hf : fs[i]? = some f) :
    ∃ n y, DataW.trod enc P w base spare held n f.type ((cs.drop f.offset).take (P.cellsOf f.type)) = some y := by
  obtain ⟨n, hn⟩ := h
  obtain ⟨xs, n', _, _, _, hlen, hx⟩ := DataW.trod_struct hs hn
  have h3 := hx i f hf
  have hi : i < xs.length := by
    rw [hlen]
    rcases Nat.lt_or_ge i fs.size with h1 | h1
    · exact h1
    · rw [Array.getElem?_eq_none h1] at hf; cases hf
  rw [List.getElem?_eq_getElem hi] at h3
  exact ⟨n', _, by simpa [Value.cells] using h3⟩
/-- a slice that came in: each element's cells -/
theorem slice_elems {t e : TypeId} {q : Option Addr} {l c n : Nat} {y : DataW H × List MemPlace} (ht : P.underlying t = some (.slice e)) (m : Nat) {ks : List Kd} (hk : flatK P m e = some ks) (h : DataW.trod enc P w base spare held n t [.slice q l c] = some y) :
    l ≤ maxLen ∧ ∀ i, i < l → ∃ a vs n' y', q = some a ∧ areK ks vs ∧ vs.length = P.cellsOf e ∧ Vc.reads w (a.add (i * P.cellsOf e)) vs ∧ DataW.trod enc P w base spare held n' e vs = some y' := by
  rcases DataW.trod_slice ht h with ⟨h1, _⟩ | ⟨a, len, cap, elems, rest, n', _, h1, _, _, hlc, hcm, hel, hx, _, _⟩
  · simp at h1
    obtain ⟨rfl, rfl, rfl⟩ := h1
    exact ⟨Nat.zero_le _, fun i hi => absurd hi (Nat.not_lt_zero i)⟩
  · simp at h1
    obtain ⟨rfl, rfl, rfl⟩ := h1
    refine ⟨Nat.le_trans hlc hcm, fun i hi => ?_⟩
    have h3 := hx i hi
    rw [List.getElem?_eq_getElem (by omega)] at h3
    obtain ⟨vs, hv, hy⟩ := Option.bind_eq_some_iff.1 h3
    have hcs := World.cells?_some hv
    exact ⟨a, vs, n', _, rfl, flatK_ok m e ks vs hk ⟨n', _, hy⟩, hcs.2.1, fun j v hj => (hcs.2.2 j (by
      rw [← hcs.2.1]
      rcases Nat.lt_or_ge j vs.length with h6 | h6
      · exact h6
      · rw [List.getElem?_eq_none h6] at hj; cases hj)).trans hj, hy⟩
end
end Go.Vc
