import Derived.Test.YtibpbbjlecohiaaVc1
import Derived.Laws.StructEq
namespace Go.Vc
variable {P : Program} {T : Tab}

theorem dk_ok (hT : TabOk P T) {t : Nat} {d : D} (h : dk T t = some d) : dOf P t = some d := by
  unfold dk at h
  split at h
  · cases h
  · rename_i i hn hi
    cases h
    exact ((tk_ok hT hi).known (fun l hl => hn i.d l i.size i.zero i.bytes i.eq (by rw [← hl]))).d
  · cases h
theorem dOf_bool {t : Nat} (h : dOf P t = some .bool) : P.underlying t = some .bool := by
  unfold dOf at h; split at h <;> simp_all
theorem dOf_int {t : Nat} {k : IntKind} (h : dOf P t = some (.int k)) : P.underlying t = some (.int k) := by
  unfold dOf at h; split at h <;> simp_all
theorem dOf_str {t : Nat} (h : dOf P t = some .str) : P.underlying t = some .string := by
  unfold dOf at h; split at h <;> simp_all
theorem dOf_slice {t e n : Nat} (h : dOf P t = some (.slice e n)) : P.underlying t = some (.slice e) ∧ szOf P e = some n := by
  unfold dOf at h
  split at h <;> simp_all
  exact h.2 ▸ h.1
theorem dOf_array {t e l n : Nat} (h : dOf P t = some (.array l e n)) : P.underlying t = some (.array l e) ∧ szOf P e = some n := by
  unfold dOf at h
  split at h <;> simp_all
  obtain ⟨a, h1, h2, h3, h4⟩ := h
  exact ⟨⟨h2, h3⟩, h3 ▸ h4 ▸ h1⟩
theorem dOf_ptr {t n : Nat} (h : dOf P t = some (.ptr n)) : ∃ e, P.underlying t = some (.pointer e) ∧ szOf P e = some n := by
  unfold dOf at h
  split at h <;> simp_all
theorem dOf_struct {t : Nat} {l : List (Nat × TypeId × Nat)} (h : dOf P t = some (.struct l)) : ∃ fs, P.underlying t = some (.struct fs) ∧ fieldsOf P fs.toList = some l := by
  unfold dOf at h
  split at h <;> simp_all
theorem szOf_run {t n : Nat} (h : szOf P t = some n) (w : World) : (sizeOf t).run P w = .ok n w := by
  unfold szOf at h
  obtain ⟨i, hi, rfl⟩ := Option.map_eq_some_iff.1 h
  simp [sizeOf, typeInfo, hi]
theorem und_run {t : Nat} {u : TypeDesc} (h : P.underlying t = some u) (w : World) : (underlying t).run P w = .ok u w := by
  simp [underlying, h]
theorem isAgg_run {t : Nat} {d : D} (h : dOf P t = some d) (w : World) : (isAgg t).run P w = .ok d.isAgg w := by
  unfold dOf at h
  unfold isAgg
  cases hu : P.underlying t with
  | none => simp [hu] at h
  | some u =>
    simp only [Sem.run_bind, und_run hu, Result.andThen_ok]
    rw [hu] at h
    cases u <;> simp at h <;> first
      | (obtain ⟨_, _, rfl⟩ := h; rfl)
      | (subst h; rfl)

theorem eqBool_run {t : Nat} (h : P.underlying t = some .bool) (a b : Bool) (w : World) : (Op.equal t (.bool a) (.bool b)).run P w = .ok (a == b) w := by
  have h1 : ∀ d : Nat, (Op.equalIn (d + 1) t (.bool a) (.bool b)).run P w = .ok (a == b) w := fun d => by
    simp only [Op.equalIn, Sem.run_bind, und_run h, Result.andThen_ok]
    rfl
  exact h1 9999

theorem binV_run {t : TypeId} {op : BinOp} {X Y : Operand} {x y v : Value} (hT : TabOk P T) (h : binV (dk T t) op x y = some v) (w : World) :
    (do eqGuard op t X Y x y; binOp op t x y).run P w = .ok v w := by
  unfold binV at h
  split at h
  · rename_i k a k' b
    by_cases hk : k = k'
    · subst hk
      simp only [decide_true, cond_true] at h
      cases op <;> simp at h <;> subst h <;> simp [eqGuard, binOp, Op.intArith, Op.intCmp, Op.intBits]
    · simp [hk] at h
  · rename_i a b
    split at h
    · rename_i hd
      simp at h; subst h
      have hu := dOf_bool (dk_ok hT hd)
      have : binOp .eql t (.bool a) (.bool b) = (do pure (.bool (← Op.equal t (.bool a) (.bool b)))) := rfl
      rw [this]
      simp [eqGuard, eqBool_run hu]
    · rename_i hd
      simp at h; subst h
      have hu := dOf_bool (dk_ok hT hd)
      have : binOp .neq t (.bool a) (.bool b) = (do pure (.bool (!(← Op.equal t (.bool a) (.bool b))))) := rfl
      rw [this]
      simp [eqGuard, eqBool_run hu]
    · cases h
  · rename_i a b
    cases op <;> simp at h <;> subst h <;> simp [eqGuard, binOp, Op.stringOp]
  · cases h

theorem unV_run {op : UnOp} {x v : Value} (h : unV op x = some v) (w : World) : (Op.unary op x).run P w = .ok v w := by
  unfold unV at h
  split at h
  · cases op <;> simp at h <;> subst h <;> simp [Op.unary, Op.intArith, Op.intBits]
  · cases op <;> simp at h <;> subst h <;> simp [Op.unary]
  · cases h

theorem part_run {i : TI} {t : Nat} (hk : Known P t i) (hs : shOk i = true) {cs : Array Value} {off : Nat} {v : Value} (h : partV i cs.toList off = some v) (w : World) :
    (part t cs off).run P w = .ok v w := by
  obtain ⟨j, hj, hsz, _⟩ := hk.info
  unfold partV at h
  unfold part
  simp only [Sem.run_bind, isAgg_run hk.d, Result.andThen_ok]
  unfold shOk at hs
  split at h
  · rename_i ks hsh
    rw [hsh] at hs
    simp only [Bool.and_eq_true] at hs
    rw [hs.1]
    cases h
    have : (sizeOf t).run P w = .ok i.size w := szOf_run (by simp [szOf, hj, hsz]) w
    simp only [if_true, Sem.run_bind, this, Result.andThen_ok, Sem.run_pure]
    congr 2
    apply Array.toList_inj.1
    simp
  · rename_i k hsh
    rw [hsh] at hs
    simp only [Bool.and_eq_true, Bool.not_eq_true'] at hs
    rw [hs.1]
    have : cs[off]? = some v := by simpa using h
    simp [this]
  · cases h


theorem fieldsOf_get : ∀ {fs : List Field} {l : List (Nat × TypeId × Nat)}, fieldsOf P fs = some l → ∀ {f : Nat} {x : Nat × TypeId × Nat}, l[f]? = some x →
    ∃ fd, fs[f]? = some fd ∧ fd.offset = x.1 ∧ fd.type = x.2.1 ∧ szOf P fd.type = some x.2.2
  | [], l, h, f, x, hx => by simp [fieldsOf] at h; subst h; simp at hx
  | fd :: r, l, h, f, x, hx => by
    simp only [fieldsOf] at h
    split at h
    · rename_i n l' hn hl
      cases h
      cases f with
      | zero => simp at hx; subst hx; exact ⟨fd, by simp, rfl, rfl, hn⟩
      | succ f => simp at hx; obtain ⟨fd', h1, h2⟩ := fieldsOf_get hl hx; exact ⟨fd', by simpa using h1, h2⟩
    · cases h

theorem fieldV_run (hT : TabOk P T) {t f : Nat} {x v : Value} (h : fieldV T t f x = some v) (w : World) : (Instr.field t x f).run P w = .ok v w := by
  unfold fieldV at h
  split at h
  · rename_i cs
    split at h
    · rename_i fs ks sz z by' eq' ht
      have hk := (tk_ok hT ht).known (by intro l hl; cases hl)
      obtain ⟨gs, hu, hfs⟩ := dOf_struct hk.d
      split at h
      · rename_i off ft sz' hf
        obtain ⟨fd, h1, h2, h3, h4⟩ := fieldsOf_get hfs hf
        split at h
        · rename_i i hi
          have hn : ∀ l, i.sh ≠ .tup l := by intro l hl; simp [partV, hl] at h
          have hp := part_run ((tk_ok hT hi).known hn) ((tk_ok hT hi).sh hn) h w
          have h1' : gs[f]? = some fd := by simpa using h1
          simp only [] at h2 h3
          simp only [Instr.field, Sem.run_bind, und_run hu, Result.andThen_ok, h1', asAgg, Sem.run_pure, h2, h3]
          exact hp
        · cases h
      · cases h
    · cases h
  · cases h

theorem putL_spec : ∀ (off : Nat) (vs l : List Value), off + vs.length ≤ l.length → putL off vs l = l.take off ++ vs ++ l.drop (off + vs.length)
  | 0, [], l, _ => by simp [putL]
  | 0, v :: vs, [], h => by simp at h
  | 0, v :: vs, x :: l, h => by
    have := putL_spec 0 vs l (by simp at h ⊢; omega)
    simp only [putL, this]
    simp
  | n + 1, vs, [], h => by simp at h
  | n + 1, vs, x :: l, h => by
    have := putL_spec n vs l (by simp at h ⊢; omega)
    simp only [putL, this]
    simp [Nat.add_right_comm n 1]

theorem foldl_set (off : Nat) : ∀ (vs : List Value) (k : Nat) (cs : Array Value), (vs.zipIdx k).foldl (fun cs (x : Value × Nat) => cs.setIfInBounds (off + x.2) x.1) cs =
    ((vs.zipIdx k).foldl (fun (l : List Value) (x : Value × Nat) => l.set (off + x.2) x.1) cs.toList).toArray
  | [], k, cs => by simp
  | v :: vs, k, cs => by
    simp only [List.zipIdx_cons, List.foldl_cons]
    rw [foldl_set off vs (k + 1)]
    simp
theorem foldl_putL : ∀ (vs : List Value) (off k : Nat) (l : List Value), off + k + vs.length ≤ l.length →
    (vs.zipIdx k).foldl (fun (l : List Value) (x : Value × Nat) => l.set (off + x.2) x.1) l = l.take (off + k) ++ vs ++ l.drop (off + k + vs.length)
  | [], off, k, l, _ => by simp
  | v :: vs, off, k, l, h => by
    simp only [List.zipIdx_cons, List.foldl_cons]
    simp only [List.length_cons] at h
    rw [foldl_putL vs off (k + 1) _ (by simp; omega)]
    have e : off + (k + 1) = off + k + 1 := by omega
    rw [e, List.length_cons]
    have h2 : off + k + 1 + vs.length = off + k + (vs.length + 1) := by omega
    rw [h2]
    have h3 : List.take (off + k + 1) (l.set (off + k) v) = l.take (off + k) ++ [v] := by
      rw [List.take_succ_eq_append_getElem (by simp; omega)]
      simp [List.take_set_of_le (Nat.le_refl (off + k))]
    have h4 : List.drop (off + k + (vs.length + 1)) (l.set (off + k) v) = l.drop (off + k + (vs.length + 1)) := by
      rw [List.drop_set_of_lt (by omega)]
    rw [h3, h4]
    simp

theorem fillL_spec {fs : Array Field} {l : List (Nat × TypeId × Nat)} (hfs : fieldsOf P fs.toList = some l) (places : Array (Nat × Nat)) (hp : ∀ i : Nat, places[i]? = (l[i]?).map fun x => (x.1, x.2.2)) :
    ∀ (ps : List (Nat × Value)) (cs : Array Value) {r : List Value}, fillL l ps cs.toList = some r → Instr.fill (places[·]?) cs ps = some r.toArray
  | [], cs, r, h => by simp [fillL] at h; subst h; simp [Instr.fill]
  | (i, v) :: ps, cs, r, h => by
    simp only [fillL] at h
    cases hl : l[i]? with
    | none => simp [hl] at h
    | some x =>
      obtain ⟨off, ft, size⟩ := x
      simp only [hl] at h
      have hi : places[i]? = some (off, size) := by rw [hp, hl]; rfl
      simp only [Instr.fill, hi]
      cases hb : (Nat.beq v.cells.toList.length size && Nat.ble (off + size) cs.toList.length) with
      | false => rw [hb] at h; simp at h
      | true =>
        rw [hb] at h
        simp only [cond_true] at h
        simp only [Bool.and_eq_true] at hb
        have h1 : v.cells.toList.length = size := Nat.eq_of_beq_eq_true hb.1
        have h2 : off + size ≤ cs.toList.length := Nat.le_of_ble_eq_true hb.2
        have h1' : v.cells.size = size := by simpa using h1
        have h2' : off + size ≤ cs.size := by simpa using h2
        rw [if_neg (by simp [h1', h2'])]
        have := foldl_set off v.cells.toList 0 cs
        have e1 : (v.cells.zipIdx.foldl (fun cs (x : Value × Nat) => cs.setIfInBounds (off + x.2) x.1) cs) = (putL off v.cells.toList cs.toList).toArray := by
          rw [← Array.foldl_toList, Array.toList_zipIdx, this, foldl_putL _ _ _ _ (by simpa [h1'] using h2'), putL_spec _ _ _ (by rw [h1]; exact h2)]
          simp
        have e2 := fillL_spec hfs places hp ps (putL off v.cells.toList cs.toList).toArray (r := r) (by simpa using h)
        rw [← e2, ← e1]

theorem fillS_spec {es : Nat} : ∀ (ps : List (Nat × Value)) (cs : Array Value) {r : List Value}, fillS es ps cs.toList = some r → Instr.fill (fun i => some (i * es, es)) cs ps = some r.toArray
  | [], cs, r, h => by simp [fillS] at h; subst h; simp [Instr.fill]
  | (i, v) :: ps, cs, r, h => by
    simp only [fillS] at h
    cases hb : (Nat.beq v.cells.toList.length es && Nat.ble (i * es + es) cs.toList.length) with
    | false => rw [hb] at h; simp at h
    | true =>
      rw [hb] at h
      simp only [cond_true] at h
      simp only [Bool.and_eq_true] at hb
      have h1 : v.cells.toList.length = es := Nat.eq_of_beq_eq_true hb.1
      have h2 : i * es + es ≤ cs.toList.length := Nat.le_of_ble_eq_true hb.2
      have h1' : v.cells.size = es := by simpa using h1
      have h2' : i * es + es ≤ cs.size := by simpa using h2
      simp only [Instr.fill]
      rw [if_neg (by simp [h1', h2'])]
      have := foldl_set (i * es) v.cells.toList 0 cs
      have e1 : (v.cells.zipIdx.foldl (fun cs (x : Value × Nat) => cs.setIfInBounds (i * es + x.2) x.1) cs) = (putL (i * es) v.cells.toList cs.toList).toArray := by
        rw [← Array.foldl_toList, Array.toList_zipIdx, this, foldl_putL _ _ _ _ (by simpa [h1'] using h2'), putL_spec _ _ _ (by rw [h1]; exact h2)]
        simp
      have e2 := fillS_spec ps (putL (i * es) v.cells.toList cs.toList).toArray (r := r) (by simpa using h)
      rw [← e2, ← e1]
theorem places_run (w : World) : ∀ {fs : List Field} {l : List (Nat × TypeId × Nat)}, fieldsOf P fs = some l →
    (fs.mapM fun f => Prod.mk f.offset <$> sizeOf f.type).run P w = .ok (l.map fun x => (x.1, x.2.2)) w
  | [], l, h => by simp [fieldsOf] at h; subst h; simp
  | f :: r, l, h => by
    simp only [fieldsOf] at h
    split at h
    · rename_i n l' hn hl
      cases h
      simp [List.mapM_cons, szOf_run hn, places_run w hl]
    · cases h
theorem buildV_run (hT : TabOk P T) {t : Nat} {ps : List (Nat × Value)} {v : Value} (h : buildV T t ps = some v) (w : World) : (Instr.build t ps.toArray).run P w = .ok v w := by
  unfold buildV at h
  split at h
  · rename_i fs ks sz z by' eq' ht
    have hk := (tk_ok hT ht).known (by intro l hl; cases hl)
    obtain ⟨gs, hu, hfs⟩ := dOf_struct hk.d
    obtain ⟨j, hj, _, hz, _⟩ := hk.info
    obtain ⟨l, hl, rfl⟩ := Option.map_eq_some_iff.1 h
    have hf := fillL_spec (P := P) (fs := gs) hfs (fs.map fun x => (x.1, x.2.2)).toArray (fun i => by simp) ps z.cells hl
    have hz' : (zeroValue t).run P w = .ok z w := by simp [zeroValue, typeInfo, hj, hz]
    have hf' : Instr.fill (fun x => Option.map (fun x => (x.1, x.2.2)) fs[x]?) z.cells ps = some l.toArray := by simpa using hf
    simp [Instr.build, hz', und_run hu, Array.mapM_eq_mapM_toList, places_run w hfs, hf']
  · rename_i m e es ks sz z by' eq' ht
    have hk := (tk_ok hT ht).known (by intro l hl; cases hl)
    obtain ⟨hu, hes⟩ := dOf_array hk.d
    obtain ⟨j, hj, _, hz, _⟩ := hk.info
    obtain ⟨l, hl, rfl⟩ := Option.map_eq_some_iff.1 h
    have hf := fillS_spec ps z.cells hl
    have hz' : (zeroValue t).run P w = .ok z w := by simp [zeroValue, typeInfo, hj, hz]
    simp [Instr.build, hz', und_run hu, szOf_run hes, hf]
  · cases h
theorem minL_run {k : IntKind} (w : World) : ∀ {r : List Value} {x : Int} {v : Value}, minL k x r = some v → (r.foldlM Builtin.min2 (.int k x)).run P w = .ok v w
  | [], x, v, h => by simp [minL] at h; subst h; simp
  | .int j y :: r, x, v, h => by
    simp only [minL] at h
    simp only [List.foldlM_cons, Sem.run_bind, Builtin.min2, Sem.run_pure, Result.andThen_ok]
    exact minL_run w h
theorem maxL_run {k : IntKind} (w : World) : ∀ {r : List Value} {x : Int} {v : Value}, maxL k x r = some v → (r.foldlM Builtin.max2 (.int k x)).run P w = .ok v w
  | [], x, v, h => by simp [maxL] at h; subst h; simp
  | .int j y :: r, x, v, h => by
    simp only [maxL] at h
    simp only [List.foldlM_cons, Sem.run_bind, Builtin.max2, Sem.run_pure, Result.andThen_ok]
    exact maxL_run w h
theorem builtinV_run (hT : TabOk P T) {b : Builtin} {ts : Array TypeId} {ty : TypeId} {cs : Array Bool} {vs : List Value} {v : Value} (h : builtinV T b ts.toList vs = some v) (w : World) :
    (builtin b ts ty cs vs.toArray).run P w = .ok (.value v) w := by
  obtain ⟨ts⟩ := ts
  simp only [] at h
  unfold builtinV at h
  split at h
  · split at h
    · rename_i t _ n c e es _ sz z by' eq' ht
      cases h
      have hu := (dOf_slice ((tk_ok hT ht).known (by intro l hl; cases hl)).d).1
      simp [builtin, Builtin.len_, und_run hu, goInt]
    · cases h
  · split at h
    · rename_i t s k sz z by' eq' ht
      cases h
      have hu := dOf_str ((tk_ok hT ht).known (by intro l hl; cases hl)).d
      simp [builtin, Builtin.len_, und_run hu, goInt]
    · cases h
  · split at h
    · rename_i t _ m n e es _ sz z by' eq' ht
      cases h
      have hu := (dOf_slice ((tk_ok hT ht).known (by intro l hl; cases hl)).d).1
      simp [builtin, Builtin.cap_, und_run hu, goInt]
    · cases h
  · simp [builtin, Builtin.min_, minL_run w h]
  · simp [builtin, Builtin.max_, maxL_run w h]
  · cases h
theorem parts_eval {n : Nat} {env : Env} {a : Act} (hs : Sat n env a) : ∀ {l : List (Nat × Operand)} {ps : List (Nat × Value)}, partsV env l = some ps → l.map (fun p => (p.1, a.eval p.2)) = ps
  | [], ps, h => by simp [partsV] at h; subst h; rfl
  | p :: r, ps, h => by
    simp only [partsV] at h
    split at h
    · rename_i v vs hv hvs
      cases h
      simp [hs.eval hv, parts_eval hs hvs]
    · cases h

/-! ## equality of structs -/
theorem eqL_append : ∀ (a c b d : List Value), a.length = c.length → eqL (a ++ b) (c ++ d) = (eqL a c && eqL b d)
  | [], [], b, d, _ => by simp [eqL]
  | [], _ :: _, b, d, h => by simp at h
  | _ :: _, [], b, d, h => by simp at h
  | x :: a, y :: c, b, d, h => by
    have ih := eqL_append a c b d (by simpa using h)
    cases x <;> cases y <;> simp [eqL, ih, Bool.and_assoc]
theorem fitB_length : ∀ {ks : List Kd} {vs : List Value}, fitB ks vs = true → vs.length = ks.length
  | [], [], _ => rfl
  | [], _ :: _, h => by simp [fitB] at h
  | k :: ks, [], h => by cases k <;> simp [fitB] at h
  | k :: ks, v :: vs, h => by
    cases k <;> cases v <;> simp [fitB] at h <;> simp [fitB_length (ks := ks) (vs := vs) (by simp [h])]
theorem fitB_append : ∀ {k1 k2 : List Kd} {vs : List Value}, fitB (k1 ++ k2) vs = true → fitB k1 (vs.take k1.length) = true ∧ fitB k2 (vs.drop k1.length) = true
  | [], k2, vs, h => by simpa [fitB] using h
  | k :: k1, k2, [], h => by cases k <;> simp [fitB] at h
  | k :: k1, k2, v :: vs, h => by
    cases k <;> cases v <;> simp [fitB] at h
    · have := fitB_append (k1 := k1) (k2 := k2) (vs := vs) h.2
      simp [fitB, h.1, this]
    · have := fitB_append (k1 := k1) (k2 := k2) (vs := vs) h
      simp [fitB, this]
    · have := fitB_append (k1 := k1) (k2 := k2) (vs := vs) h
      simp [fitB, this]
def valT (agg : Bool) (xs : List Value) : Value := if agg then .agg xs.toArray else xs.headD undef
def aggT (P : Program) (t : TypeId) : Bool := match P.underlying t with
  | some (.struct _) | some (.array _ _) => true
  | _ => false
theorem isAgg_run' {t : Nat} {u : TypeDesc} (h : P.underlying t = some u) (w : World) : (isAgg t).run P w = .ok (aggT P t) w := by
  unfold isAgg aggT
  simp only [Sem.run_bind, und_run h, Result.andThen_ok]
  rw [h]
  cases u <;> rfl
theorem part_val {t off n : Nat} {u : TypeDesc} (hu : P.underlying t = some u) (hn : szOf P t = some n) {xs : List Value} (hl : off + n ≤ xs.length) (h1 : aggT P t = false → n = 1) (w : World) :
    (part t xs.toArray off).run P w = .ok (valT (aggT P t) ((xs.drop off).take n)) w := by
  unfold part
  simp only [Sem.run_bind, isAgg_run' hu, Result.andThen_ok]
  cases ha : aggT P t with
  | true =>
    simp only [if_true, Sem.run_bind, szOf_run hn, Result.andThen_ok, Sem.run_pure, valT]
    congr 2
    apply Array.toList_inj.1
    simp
  | false =>
    have hn1 := h1 ha
    subst hn1
    have hlt : off < xs.length := by omega
    have e : (List.take 1 (List.drop off xs)).headD undef = xs[off] := by
      rw [List.drop_eq_getElem_cons hlt]; rfl
    have e' : (List.take 1 (List.drop off xs)).head?.getD undef = xs[off] := by simpa using e
    simp [valT, hlt, e']
theorem eqFields_run {e : Nat} {g : TypeId → Option (List Kd)}
    (hg : ∀ t ks, g t = some ks → (∃ u, P.underlying t = some u) ∧ (aggT P t = false → ks.length = 1) ∧ ∀ xs ys : List Value, fitB ks xs = true → fitB ks ys = true → ∀ w, (Op.equalIn e t (valT (aggT P t) xs) (valT (aggT P t) ys)).run P w = .ok (eqL xs ys) w) :
    ∀ (fs : List Field) (off : Nat) (ks : List Kd), eqLeafs P g fs off = some ks → ∀ xs ys : List Value, off ≤ xs.length → off ≤ ys.length → fitB ks (xs.drop off) = true → fitB ks (ys.drop off) = true → ∀ w,
      (Op.eqFields e xs.toArray ys.toArray fs).run P w = .ok (eqL (xs.drop off) (ys.drop off)) w
  | [], off, ks, h, xs, ys, _, _, hx, hy, w => by
    simp [eqLeafs] at h
    subst h
    have h1 := fitB_length hx
    have h2 := fitB_length hy
    rw [List.eq_nil_of_length_eq_zero h1, List.eq_nil_of_length_eq_zero h2]
    simp [Op.eqFields, eqL]
  | f :: r, off, ks, h, xs, ys, lx, ly, hx, hy, w => by
    simp only [eqLeafs] at h
    split at h
    · rename_i ks1 n hk hn
      cases hb : ((f.name != "_") && Nat.beq f.offset off && Nat.beq ks1.length n) with
      | false => rw [hb] at h; simp at h
      | true =>
        rw [hb] at h
        simp only [cond_true] at h
        simp only [Bool.and_eq_true, bne_iff_ne] at hb
        obtain ⟨⟨b1, b2⟩, b3⟩ := hb
        have b2 : f.offset = off := Nat.eq_of_beq_eq_true b2
        have b3 : ks1.length = n := Nat.eq_of_beq_eq_true b3
        obtain ⟨ks2, h2, rfl⟩ := Option.map_eq_some_iff.1 h
        obtain ⟨⟨u, hu⟩, hone, heq⟩ := hg _ _ hk
        have fx := fitB_append hx
        have fy := fitB_append hy
        rw [b3] at fx fy
        have lx' : off + n ≤ xs.length := by have := fitB_length fx.1; simp [b3] at this; omega
        have ly' : off + n ≤ ys.length := by have := fitB_length fy.1; simp [b3] at this; omega
        have px := part_val hu hn lx' (fun ha => by rw [← b3]; exact hone ha) w
        have py := part_val hu hn ly' (fun ha => by rw [← b3]; exact hone ha) w
        have pe := heq _ _ fx.1 fy.1 w
        have ih := eqFields_run hg r (off + n) ks2 h2 xs ys lx' ly' (by rw [← List.drop_drop]; exact fx.2) (by rw [← List.drop_drop]; exact fy.2) w
        have es : eqL (xs.drop off) (ys.drop off) = (eqL ((xs.drop off).take n) ((ys.drop off).take n) && eqL (xs.drop (off + n)) (ys.drop (off + n))) := by
          rw [← eqL_append _ _ _ _ (by simp; omega), ← List.drop_drop, ← List.drop_drop, List.take_append_drop, List.take_append_drop]
        simp only [Op.eqFields, if_pos b1, b2, Sem.run_bind, px, Result.andThen_ok, py, pe]
        cases hq : eqL ((xs.drop off).take n) ((ys.drop off).take n) with
        | true => simp only [Bool.not_true, Bool.false_eq_true, if_false, ih, es, hq, Bool.true_and]
        | false => simp only [Bool.not_false, if_true, Sem.run_pure, es, hq, Bool.false_and]
    · cases h
theorem eqLeaf_run : ∀ (d : Nat) (t : TypeId) (ks : List Kd), eqLeaf P d t = some ks → (∃ u, P.underlying t = some u) ∧ (aggT P t = false → ks.length = 1) ∧
    ∀ e, d ≤ e → ∀ xs ys : List Value, fitB ks xs = true → fitB ks ys = true → ∀ w, (Op.equalIn (e + 1) t (valT (aggT P t) xs) (valT (aggT P t) ys)).run P w = .ok (eqL xs ys) w
  | 0, t, ks, h => by simp [eqLeaf] at h
  | d + 1, t, ks, h => by
    simp only [eqLeaf] at h
    split at h
    · rename_i k hu
      cases h
      refine ⟨⟨_, hu⟩, fun _ => rfl, fun e _ xs ys hx hy w => ?_⟩
      have ha : aggT P t = false := by simp [aggT, hu]
      rw [ha]
      match xs, ys, hx, hy with
      | .int k1 a :: [], .int k2 b :: [], hx, hy =>
        have e1 : k1 = k2 := by
          simp [fitB] at hx hy
          rw [← hx, ← hy]
        subst e1
        simpa [valT, eqL] using run_equalIn_int w e t k1 k a b hu
      | .int _ _ :: [], .int _ _ :: _ :: _, _, hy => simp [fitB] at hy
      | .int _ _ :: _ :: _, _, hx, _ => simp [fitB] at hx
    · rename_i hu
      cases h
      refine ⟨⟨_, hu⟩, fun _ => rfl, fun e _ xs ys hx hy w => ?_⟩
      have ha : aggT P t = false := by simp [aggT, hu]
      rw [ha]
      match xs, ys, hx, hy with
      | [.bool a], [.bool b], _, _ => simpa [valT, eqL] using run_equalIn_bool' w e t a b hu
    · rename_i hu
      cases h
      refine ⟨⟨_, hu⟩, fun _ => rfl, fun e _ xs ys hx hy w => ?_⟩
      have ha : aggT P t = false := by simp [aggT, hu]
      rw [ha]
      match xs, ys, hx, hy with
      | [.string a], [.string b], _, _ => simpa [valT, eqL] using run_equalIn_string w e t a b hu
    · rename_i fs hu
      have ha : aggT P t = true := by simp [aggT, hu]
      cases hst : P.stoodInHeld t with
      | true => rw [hst] at h; simp at h
      | false =>
        rw [hst] at h
        simp only [cond_false] at h
        refine ⟨⟨_, hu⟩, fun hf => absurd (ha.symm.trans hf) (by decide), fun e he xs ys hx hy w => ?_⟩
        have hfo : P.underlying t = some (.struct (P.fieldsOf t)) := by simp [Program.fieldsOf, hu]
        have hfe : (P.fieldsOf t) = fs := by simp [Program.fieldsOf, hu]
        rw [ha]
        show (Op.equalIn (e + 1) t (.agg xs.toArray) (.agg ys.toArray)).run P w = _
        rw [run_equalIn_struct w e t xs.toArray ys.toArray hfo hst, hfe]
        obtain ⟨e', rfl⟩ : ∃ e', e = e' + 1 := ⟨e - 1, by omega⟩
        have := eqFields_run (e := e' + 1) (g := eqLeaf P d) (fun t ks hk => by
          obtain ⟨h1, h2, h3⟩ := eqLeaf_run d t ks hk
          exact ⟨h1, h2, fun xs ys hx hy w => h3 e' (by omega) xs ys hx hy w⟩) fs.toList 0 ks h xs ys (Nat.zero_le _) (Nat.zero_le _) (by simpa using hx) (by simpa using hy) w
        simpa using this
    · cases h
theorem eqAgg_run {t : TypeId} {ks : List Kd} (hl : eqLeaf P 8 t = some ks) (hg : P.eqGuardType P.depth t = false) (ha : aggT P t = true) {xs ys : Array Value} (hx : fitB ks xs.toList = true) (hy : fitB ks ys.toList = true)
    (X Y : Operand) (w : World) : (do eqGuard .eql t X Y (.agg xs) (.agg ys); binOp .eql t (.agg xs) (.agg ys)).run P w = .ok (.bool (eqL xs.toList ys.toList)) w ∧
      (do eqGuard .neq t X Y (.agg xs) (.agg ys); binOp .neq t (.agg xs) (.agg ys)).run P w = .ok (.bool (!eqL xs.toList ys.toList)) w := by
  have h := (eqLeaf_run 8 t ks hl).2.2 9999 (by omega) xs.toList ys.toList hx hy w
  rw [ha] at h
  have h' : (Op.equalIn 10000 t (.agg xs) (.agg ys)).run P w = .ok (eqL xs.toList ys.toList) w := h
  constructor
  · simp only [Sem.run_bind, run_eqGuard_agg w _ t X Y xs ys hg, Result.andThen_ok, run_eql_struct, h']
  · simp only [Sem.run_bind, run_eqGuard_agg w _ t X Y xs ys hg, Result.andThen_ok, run_neq_struct, h']

theorem pureV_run (hT : TabOk P T) {n : Nat} {env : Env} {a : Act} (hs : Sat n env a) {o : Oper} {v : Value} (h : pureV T env o = some v) (w : World) :
    (execOp a.eval o).run P w = .ok (.value v) w := by
  unfold pureV at h
  unfold execOp
  split at h
  · rename_i x ho; simp [ho, hs.eval h]
  · rename_i x ho; simp [ho, hs.eval h]
  · rename_i op t x y _ ho
    split at h
    · rename_i xs ys hp hq
      split at h
      · rename_i d ks sz z by' ht
        cases hb : (fitB ks xs.toList && fitB ks ys.toList) with
        | false => rw [hb] at h; simp at h
        | true =>
          rw [hb] at h
          simp only [cond_true] at h
          simp only [Bool.and_eq_true] at hb
          have hok := tk_ok hT ht
          obtain ⟨ks', e1, e2, e3⟩ := hok.eq (by intro l hl; cases hl) rfl
          cases e1
          have hsh := hok.sh (by intro l hl; cases hl)
          simp only [shOk, Bool.and_eq_true] at hsh
          have ha : aggT P t = true := by
            have hd := (hok.known (by intro l hl; cases hl)).d
            obtain ⟨⟨u, hu⟩, _⟩ := eqLeaf_run 8 t ks e2
            have := isAgg_run hd w
            rw [isAgg_run' hu] at this
            injection this with h1
            rw [h1]; exact hsh.1
          have := eqAgg_run e2 e3 ha hb.1 hb.2 x y w
          cases op <;> simp at h <;> subst h
          · rw [ho]; simp only [hs.eval hp, hs.eval hq]; rw [Sem.run_bind, this.1]; rfl
          · rw [ho]; simp only [hs.eval hp, hs.eval hq]; rw [Sem.run_bind, this.2]; rfl
      · cases h
    · rename_i p q _ hp hq
      have := binV_run (X := x) (Y := y) hT h w
      rw [ho]
      simp only [hs.eval hp, hs.eval hq]
      rw [Sem.run_bind, this]; rfl
    · cases h
  · rename_i op _ x ho
    split at h
    · rename_i p hp
      simp [ho, hs.eval hp, unV_run h]
    · cases h
  · rename_i t x f ho
    split at h
    · rename_i p hp
      simp [ho, hs.eval hp, fieldV_run hT h]
    · cases h
  · rename_i x i ho
    split at h
    · rename_i vs hx
      have h' : vs[i]? = some v := by simpa using h
      simp [ho, hs.eval hx, Instr.extract, h']
    · cases h
  · rename_i t parts ho
    split at h
    · rename_i ps hps
      have e : (parts.map fun (x : Nat × Operand) => (x.1, a.eval x.2)) = ps.toArray := by
        refine Array.toList_inj.1 ?_
        rw [Array.toList_map]; exact parts_eval hs hps
      rw [ho]
      simp only [e, Sem.run_bind, buildV_run hT h, Result.andThen_ok, Sem.run_pure]
    · cases h
  · rename_i s d x ho
    split at h
    · rename_i ds _ sz z _ _ k kk szd zd _ _ _ n hs' hd hx
      cases h
      have h1 := ((tk_ok hT hs').known (by intro l hl; cases hl)).und
      have h2 := dOf_int ((tk_ok hT hd).known (by intro l hl; cases hl)).d
      obtain ⟨u, hu⟩ := h1
      simp [ho, hs.eval hx, convert, und_run hu, und_run h2, Conv.intToInt]
    · rename_i ds _ sz z _ _ kk szd zd _ _ s' hs' hd hx
      cases h
      have h1 := ((tk_ok hT hs').known (by intro l hl; cases hl)).und
      have h2 := dOf_str ((tk_ok hT hd).known (by intro l hl; cases hl)).d
      obtain ⟨u, hu⟩ := h1
      simp [ho, hs.eval hx, convert, und_run hu, und_run h2]
    · cases h
  · rename_i fn first captured ho
    split at h
    · rename_i fs cs hf hc
      cases h
      have e1 : first.map a.eval = fs.toArray := Array.toList_inj.1 (by rw [Array.toList_map]; exact hs.evals hf)
      have e2 : captured.map a.eval = cs.toArray := Array.toList_inj.1 (by rw [Array.toList_map]; exact hs.evals hc)
      simp [ho, e1, e2, Instr.makeFunc]
    · cases h
  · rename_i t x ho
    split at h
    · cases h
    · cases h
    · rename_i i u hni hnt ht hx
      cases h
      have hk := (tk_ok hT ht).known (fun l hl => hnt i.d l i.size i.zero i.bytes i.eq (by rw [← hl]))
      obtain ⟨d, hd⟩ := hk.und
      have hni' : ∀ ms, d ≠ .interface ms := fun ms e => by
        have h2 := hk.d
        rw [e] at hd
        simp [dOf, hd] at h2
        exact hni i.sh i.size i.zero i.bytes i.eq (by cases i; simp_all)
      simp only [ho, hs.eval hx, Instr.makeInterface, Sem.run_bind, und_run hd, Result.andThen_ok]
      cases d <;> first
        | rfl
        | (rename_i ms; exact absurd rfl (hni' ms))
    · cases h
  · rename_i b args ts ho
    split at h
    · rename_i vs hvs
      have e1 : args.map a.eval = vs.toArray := Array.toList_inj.1 (by rw [Array.toList_map]; exact hs.evals hvs)
      simp only [ho, resolve, Sem.run_bind, Sem.run_pure, Result.andThen_ok, invoke, e1]
      exact builtinV_run hT h w
    · cases h
  · cases h
end Go.Vc
