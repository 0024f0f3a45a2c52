import Derived.Test.YtibpbbjlecohiaaVc2
namespace Go.Vc
variable {P : Program} {T : Tab}

def bcase (b : Bool) (X Y : Prop) : Prop := match b with | true => X | false => Y
def onPtr (q : Option Addr) (C : Addr → Prop) : Prop := match q with | some a => C a | none => False
def onV (x : Option Value) (C : Value → Prop) : Prop := match x with | some v => C v | none => False
/-- where a slice of 'cap' places begins once 'l' of them are cut off -/
def cutP (base : Option Addr) (cap l es : Nat) : Option Addr := if cap = l then base else base.map (·.add (l * es))

/-! ## operations that read, at the most. 'rd p k C': the cell at p is of kind k, and C of what it holds. 'pe p q': the two pointers may be compared -/
section
variable (rd : Addr → List Kd → (List Value → Prop) → Prop) (pe : Option Addr → Option Addr → Prop)
def qLoad (T : Tab) (t : TypeId) (p : Addr) (C : Value → Prop) : Prop := match tk T t with
  | some ⟨_, .one k, _, _, _, _⟩ => rd p [k] fun vs => match vs with | [v] => C v | _ => False
  | some ⟨_, .agg ks, _, _, _, _⟩ => rd p ks fun vs => C (.agg vs.toArray)
  | _ => False
def qSlice (base : Option Addr) (len cap es : Nat) : Option Int → Option Int → (Value → Prop) → Prop
  | none, none, C => C (.slice base len cap)
  | none, some y, C => 0 ≤ y ∧ y ≤ (cap : Int) ∧ C (.slice base y.toNat cap)
  | some x, none, C => 0 ≤ x ∧ x ≤ (len : Int) ∧ C (.slice (cutP base cap x.toNat es) (len - x.toNat) (cap - x.toNat))
  | some x, some y, C => 0 ≤ y ∧ y ≤ (cap : Int) ∧ 0 ≤ x ∧ x ≤ y ∧ C (.slice (cutP base cap x.toNat es) (y.toNat - x.toNat) (cap - x.toNat))
def qCut (s : ByteArray) : Option Int → Option Int → (Value → Prop) → Prop
  | none, none, C => C (.string s)
  | none, some y, C => 0 ≤ y ∧ y ≤ (s.size : Int) ∧ C (.string (s.extract 0 y.toNat))
  | some x, none, C => 0 ≤ x ∧ x ≤ (s.size : Int) ∧ C (.string (s.extract x.toNat s.size))
  | some x, some y, C => 0 ≤ y ∧ y ≤ (s.size : Int) ∧ 0 ≤ x ∧ x ≤ y ∧ C (.string (s.extract x.toNat y.toNat))
def bound (env : Env) : Option Operand → Option (Option Int)
  | none => some none
  | some x => match opv env x with
    | some (.int _ n) => some (some n)
    | _ => none
def qOp (T : Tab) (env : Env) (o : Oper) (C : Value → Prop) : Option Prop := match o.op with
  | .pick c a b => match opv env c with
    | some (.bool x) => some (bcase x (onV (opv env a) C) (onV (opv env b) C))
    | _ => none
  | .load t x => match opv env x with
    | some (.pointer q) => some (onPtr q fun p => qLoad rd T t p C)
    | _ => none
  | .nilCheck x => match opv env x with
    | some (.pointer q) => some (onPtr q fun a => C (.pointer (some a)))
    | some (.iface t v) => some (C (.iface t v))
    | _ => none
  | .fieldAddr t x f => match tk T t, opv env x with
    | some ⟨.struct fs, .agg _, _, _, _, _⟩, some (.pointer q) => match fs[f]? with
      | some (off, _, _ + 1) => some (onPtr q fun a => C (.pointer (some (a.add off))))
      | _ => none
    | _, _ => none
  | .indexAddr t x i => match tk T t, opv env x, opv env i with
    | some ⟨.slice _ es, .one _, _, _, _, _⟩, some (.slice b n _), some (.int _ k) => some (onPtr b fun a => 0 ≤ k ∧ k < (n : Int) ∧ C (.pointer (some (a.add (k.toNat * es)))))
    | some ⟨.array n _ es, .agg _, _, _, _, _⟩, some (.pointer q), some (.int _ k) => some (onPtr q fun a => 0 ≤ k ∧ k < (n : Int) ∧ C (.pointer (some (a.add (k.toNat * es)))))
    | _, _, _ => none
  | .index t x i => match tk T t, opv env x, opv env i with
    | some ⟨.str, .one _, _, _, _, _⟩, some (.string s), some (.int _ k) => some (∃ b : UInt8, 0 ≤ k ∧ s[k.toNat]? = some b ∧ C (.int .u8 (b.toNat : Int)))
    | _, _, _ => none
  | .slice t x lo hi none => match tk T t, opv env x, bound env lo, bound env hi with
    | some ⟨.slice _ es, .one _, _, _, _, _⟩, some (.slice b n c), some l, some h => some (qSlice b n c es l h C)
    | some ⟨.str, .one _, _, _, _, _⟩, some (.string s), some l, some h => some (qCut s l h C)
    | _, _, _, _ => none
  | .binOp op t x y _ => match op, opv env x, opv env y with
    | .quo, some (.int k a), some (.int k' b) => bif decide (k = k') then some (b ≠ 0 ∧ C (.int k (k.wrap (a.tdiv b)))) else none
    | .rem, some (.int k a), some (.int k' b) => bif decide (k = k') then some (b ≠ 0 ∧ C (.int k (a.tmod b))) else none
    | .shl, some (.int k a), some (.int _ b) => some (0 ≤ b ∧ C (.int k (k.wrap (a * 2 ^ (min b.toNat k.bits)))))
    | .shr, some (.int k a), some (.int _ b) => some (0 ≤ b ∧ C (.int k (a.fdiv (2 ^ (min b.toNat k.bits)))))
    | .eql, some (.pointer p), some (.pointer q) => match dk T t with
      | some (.ptr (_ + 1)) => some (pe p q ∧ C (.bool (decide (p = q))))
      | _ => none
    | .neq, some (.pointer p), some (.pointer q) => match dk T t with
      | some (.ptr (_ + 1)) => some (pe p q ∧ C (.bool (!decide (p = q))))
      | _ => none
    | _, _, _ => none
  | _ => none
end

/-- the cells from p on hold these values -/
def reads (w : World) (p : Addr) (vs : List Value) : Prop := ∀ j v, vs[j]? = some v → w.cell? (p.add j) = some v
theorem add_zero' (a : Addr) : a.add 0 = a := by simp [Addr.add]
/-- reads that are good in every world that meets S -/
def RdOk (S : World → Prop) (rd : Addr → List Kd → (List Value → Prop) → Prop) : Prop := ∀ p ks C, rd p ks C → ∃ vs, vs.length = ks.length ∧ C vs ∧ ∀ w, S w → reads w p vs
def PeOk (P : Program) (S : World → Prop) (pe : Option Addr → Option Addr → Prop) : Prop := ∀ a b, pe (some a) (some b) → ∀ w, S w → (sameAddr a b).run P w = .ok (decide (a = b)) w

def rdW (w : World) (p : Addr) : List Kd → (List Value → Prop) → Prop
  | [k], C => exKd k fun v => w.cell? p = some v ∧ C [v]
  | ks, C => exKs ks fun vs => reads w p vs ∧ C vs
theorem reads_one {w : World} {p : Addr} {v : Value} (h : w.cell? p = some v) : reads w p [v] := fun j u hu => by
  cases j with
  | zero => simp at hu; subst hu; rw [add_zero']; exact h
  | succ j => simp at hu
theorem rdW_ok (w : World) : RdOk (fun w' => w' = w) (rdW w) := fun p ks C h => by
  unfold rdW at h
  split at h
  · obtain ⟨v, h1, h2⟩ := exKd_any h
    exact ⟨[v], rfl, h2, fun w' e => by rw [e]; exact reads_one h1⟩
  · obtain ⟨vs, hl, h1, h2⟩ := exKs_any h
    exact ⟨vs, hl, h2, fun w' e => by rw [e]; exact h1⟩
def plainBlk (w : World) (b : Nat) : Prop := ∃ cs t, w.heap[b]? = some (.cells cs t (0, 0)) ∧ cs.size ≠ 0
def ptrOk (w : World) (p q : Option Addr) : Prop := ∀ a b, p = some a → q = some b → a.block ≠ b.block → plainBlk w a.block ∧ plainBlk w b.block
theorem sameAddr_run (w : World) (a b : Addr) (h : a.block ≠ b.block → plainBlk w a.block ∧ plainBlk w b.block) : (sameAddr a b).run P w = .ok (decide (a = b)) w := by
  by_cases e : a.block = b.block
  · simp only [sameAddr, e, beq_self_eq_true, if_true, Sem.run_pure]
    congr 1
  · obtain ⟨⟨ca, ta, ha, sa⟩, ⟨cb, tb, hb, sb⟩⟩ := h e
    have ne : a ≠ b := fun h => e (by rw [h])
    have f1 : ∀ off, w.frozen? ⟨a.block, off, none⟩ = false := fun off => by simp [World.frozen?, ha]
    have fa : w.frozen? a = false := by simp [World.frozen?, ha]
    have fb : w.frozen? b = false := by simp [World.frozen?, hb]
    have s1 : w.shape? a.block = some (ta, ca.size) := by simp [World.shape?, ha]
    have s2 : w.shape? b.block = some (tb, cb.size) := by simp [World.shape?, hb]
    have f2 : ∀ off, w.frozen? ⟨b.block, off, none⟩ = false := fun off => by simp [World.frozen?, hb]
    simp [sameAddr, e, fa, fb, noView, viewAt, s1, s2, mayBeOne, stringish, f1, f2, ne]
theorem ptrOk_ok (w : World) : PeOk P (fun w' => w' = w) (ptrOk w) := fun a b h w' e => by
  subst e
  exact sameAddr_run _ a b (h a b rfl rfl)
def pe0 (p q : Option Addr) : Prop := ∀ a b, p = some a → q = some b → a.block = b.block
theorem pe0_ok (S : World → Prop) : PeOk P S pe0 := fun a b h w _ => sameAddr_run w a b (fun e => absurd (h a b rfl rfl) e)

theorem bcase_elim {b : Bool} {X Y Z : Prop} (h : bcase b X Y) (hx : b = true → X → Z) (hy : b = false → Y → Z) : Z := by
  cases b
  · exact hy rfl h
  · exact hx rfl h
theorem onPtr_elim {q : Option Addr} {C : Addr → Prop} (h : onPtr q C) : ∃ a, q = some a ∧ C a := by
  cases q with
  | none => exact h.elim
  | some a => exact ⟨a, rfl, h⟩
theorem onV_elim {q : Option Value} {C : Value → Prop} (h : onV q C) : ∃ a, q = some a ∧ C a := by
  cases q with
  | none => exact h.elim
  | some a => exact ⟨a, rfl, h⟩

theorem loadCellsFrom_run (w : World) (p : Addr) : ∀ (vs : List Value) (i : Nat) (acc : Array Value), (∀ j v, vs[j]? = some v → w.cell? (p.add (i + j)) = some v) →
    (loadCellsFrom p i vs.length acc).run P w = .ok (acc ++ vs.toArray) w
  | [], i, acc, _ => by simp [loadCellsFrom]
  | v :: vs, i, acc, h => by
    have h0 := h 0 v (by simp)
    simp only [Nat.add_zero] at h0
    have := loadCellsFrom_run w p vs (i + 1) (acc.push v) (fun j u hu => by
      have := h (j + 1) u (by simpa using hu)
      rwa [show i + (j + 1) = i + 1 + j by omega] at this)
    simp only [List.length_cons, loadCellsFrom, Sem.run_bind, run_load, h0, Result.andThen_ok, this]
    simp

theorem qLoad_elim (hT : TabOk P T) {S : World → Prop} {rd : Addr → List Kd → (List Value → Prop) → Prop} (hr : RdOk S rd) {t : TypeId} {p : Addr} {C : Value → Prop} (h : qLoad rd T t p C) :
    ∃ v, C v ∧ ∀ w, S w → (loadVar t p).run P w = .ok v w := by
  unfold qLoad at h
  split at h
  · rename_i d k sz z by' eq' ht
    obtain ⟨vs, hl, h1, h2⟩ := hr _ _ _ h
    match vs, hl, h1, h2 with
    | [v], _, h1, h2 =>
      have hk := (tk_ok hT ht).known (by intro l hl; cases hl)
      have hs := (tk_ok hT ht).sh (by intro l hl; cases hl)
      simp only [shOk, Bool.and_eq_true, Bool.not_eq_true'] at hs
      have hd : d.isAgg = false := hs.1
      refine ⟨v, h1, fun w hw => ?_⟩
      have := h2 w hw 0 v rfl
      rw [add_zero'] at this
      simp [loadVar, isAgg_run hk.d, hd, this]
  · rename_i d ks sz z by' eq' ht
    obtain ⟨vs, h1, h2, h3⟩ := hr _ _ _ h
    have hk := (tk_ok hT ht).known (by intro l hl; cases hl)
    have hs := (tk_ok hT ht).sh (by intro l hl; cases hl)
    simp only [shOk, Bool.and_eq_true] at hs
    have hd : d.isAgg = true := hs.1
    have hz : sz = ks.length := Nat.eq_of_beq_eq_true hs.2
    obtain ⟨j, hj, hsz, _⟩ := hk.info
    refine ⟨_, h2, fun w hw => ?_⟩
    have e : (sizeOf t).run P w = .ok vs.length w := szOf_run (by simp only [szOf, hj, Option.map_some, hsz]; simp only [hz, h1]) w
    have := loadCellsFrom_run (P := P) w p vs 0 #[] (fun j v hv => by simpa using h3 w hw j v hv)
    simp [loadVar, isAgg_run hk.d, hd, e, loadCells, this]
  · cases h

theorem bound_run {n : Nat} {env : Env} {a : Act} (hs : Sat n env a) {x : Option Operand} {l : Option Int} (h : bound env x = some l) :
    (x = none ∧ l = none) ∨ ∃ y k i, x = some y ∧ a.eval y = .int k i ∧ l = some i := by
  cases x with
  | none => simp [bound] at h; exact .inl ⟨rfl, h.symm⟩
  | some y =>
    simp only [bound] at h
    split at h
    · rename_i k i hy
      cases h
      exact .inr ⟨y, k, i, rfl, hs.eval hy, rfl⟩
    · cases h

theorem bnd_run (w : World) (k : IntKind) (i : Int) (y : Nat) (code : BoundsCode) (h : 0 ≤ i ∧ i ≤ (y : Int)) : (Instr.sliceBound (.int k i) y code).run P w = .ok i.toNat w := by
  simp [Instr.sliceBound, asIntOf, h]

theorem qSlice_elim {t e es : Nat} (hu : P.underlying t = some (.slice e)) (he : szOf P e = some es) {base : Option Addr} {len cap : Nat} {lo hi : Option Int} {C : Value → Prop}
    {vl vh : Option Value} (hl : (vl = none ∧ lo = none) ∨ ∃ k i, vl = some (.int k i) ∧ lo = some i) (hh : (vh = none ∧ hi = none) ∨ ∃ k i, vh = some (.int k i) ∧ hi = some i)
    (h : qSlice base len cap es lo hi C) : ∃ v, C v ∧ ∀ w, (Instr.sliceAt t (.slice base len cap) vl vh none).run P w = .ok v w := by
  rcases hl with ⟨rfl, rfl⟩ | ⟨kl, x, rfl, rfl⟩ <;> rcases hh with ⟨rfl, rfl⟩ | ⟨kh, y, rfl, rfl⟩
  · refine ⟨_, h, fun w => ?_⟩
    simp [Instr.sliceAt, Instr.slice, und_run hu, Instr.sliceBounds, szOf_run he]
    intro _
    cases base <;> simp [add_zero']
  · obtain ⟨h1, h2, h⟩ := h
    refine ⟨_, h, fun w => ?_⟩
    simp [Instr.sliceAt, Instr.slice, und_run hu, Instr.sliceBounds, szOf_run he, bnd_run w kh y cap _ ⟨h1, h2⟩]
    intro _
    cases base <;> simp [add_zero']
  · obtain ⟨h1, h2, h⟩ := h
    refine ⟨_, h, fun w => ?_⟩
    simp [Instr.sliceAt, Instr.slice, und_run hu, Instr.sliceBounds, szOf_run he, bnd_run w kl x len _ ⟨h1, h2⟩, cutP]
  · obtain ⟨h1, h2, h3, h4, h⟩ := h
    refine ⟨_, h, fun w => ?_⟩
    simp [Instr.sliceAt, Instr.slice, und_run hu, Instr.sliceBounds, szOf_run he, bnd_run w kh y cap _ ⟨h1, h2⟩, bnd_run w kl x y.toNat _ ⟨h3, by omega⟩, cutP]
theorem qCut_elim {t : Nat} (hu : P.underlying t = some .string) {s : ByteArray} {lo hi : Option Int} {C : Value → Prop}
    {vl vh : Option Value} (hl : (vl = none ∧ lo = none) ∨ ∃ k i, vl = some (.int k i) ∧ lo = some i) (hh : (vh = none ∧ hi = none) ∨ ∃ k i, vh = some (.int k i) ∧ hi = some i)
    (h : qCut s lo hi C) : ∃ v, C v ∧ ∀ w, (Instr.sliceAt t (.string s) vl vh none).run P w = .ok v w := by
  rcases hl with ⟨rfl, rfl⟩ | ⟨kl, x, rfl, rfl⟩ <;> rcases hh with ⟨rfl, rfl⟩ | ⟨kh, y, rfl, rfl⟩
  · refine ⟨_, h, fun w => ?_⟩
    simp [Instr.sliceAt, Instr.slice, und_run hu, Instr.sliceBounds]
  · obtain ⟨h1, h2, h⟩ := h
    refine ⟨_, h, fun w => ?_⟩
    simp [Instr.sliceAt, Instr.slice, und_run hu, Instr.sliceBounds, bnd_run w kh y s.size _ ⟨h1, h2⟩]
  · obtain ⟨h1, h2, h⟩ := h
    refine ⟨_, h, fun w => ?_⟩
    simp [Instr.sliceAt, Instr.slice, und_run hu, Instr.sliceBounds, bnd_run w kl x s.size _ ⟨h1, h2⟩]
  · obtain ⟨h1, h2, h3, h4, h⟩ := h
    refine ⟨_, h, fun w => ?_⟩
    simp [Instr.sliceAt, Instr.slice, und_run hu, Instr.sliceBounds, bnd_run w kh y s.size _ ⟨h1, h2⟩, bnd_run w kl x y.toNat _ ⟨h3, by omega⟩]

theorem eqPtr_run {t e : Nat} (hu : P.underlying t = some (.pointer e)) {es : Nat} (he : szOf P e = some (es + 1)) (p q : Option Addr) (w : World)
    (h : ∀ a b, p = some a → q = some b → (sameAddr a b).run P w = .ok (decide (a = b)) w) : (Op.equal t (.pointer p) (.pointer q)).run P w = .ok (decide (p = q)) w := by
  have h1 : ∀ d : Nat, (Op.equalIn (d + 1) t (.pointer p) (.pointer q)).run P w = .ok (decide (p = q)) w := fun d => by
    simp only [Op.equalIn, Sem.run_bind, und_run hu, Result.andThen_ok]
    cases p with
    | none => cases q <;> rfl
    | some a => cases q with
      | none => rfl
      | some b =>
        have := h a b rfl rfl
        simp [szOf_run he, this]
  exact h1 9999

theorem qOp_elim (hT : TabOk P T) {S : World → Prop} {rd : Addr → List Kd → (List Value → Prop) → Prop} {pe : Option Addr → Option Addr → Prop} (hr : RdOk S rd) (hp : PeOk P S pe)
    {n : Nat} {env : Env} {a : Act} (hs : Sat n env a) {o : Oper} {C : Value → Prop} {X : Prop} (h : qOp rd pe T env o C = some X) (hx : X) :
    ∃ v, C v ∧ ∀ w, S w → (execOp a.eval o).run P w = .ok (.value v) w := by
  unfold qOp at h
  split at h
  · rename_i c x y ho
    split at h
    · rename_i b hb
      cases h
      refine bcase_elim hx (fun e hx => ?_) (fun e hx => ?_)
      · obtain ⟨v, hv, hC⟩ := onV_elim hx
        refine ⟨v, hC, fun w _ => ?_⟩
        simp [execOp, ho, hs.eval hb, asBool, e, hs.eval hv]
      · obtain ⟨v, hv, hC⟩ := onV_elim hx
        refine ⟨v, hC, fun w _ => ?_⟩
        simp [execOp, ho, hs.eval hb, asBool, e, hs.eval hv]
    · cases h
  · rename_i t x ho
    split at h
    · rename_i q hq
      cases h
      obtain ⟨p, rfl, hx⟩ := onPtr_elim hx
      obtain ⟨v, hC, hv⟩ := qLoad_elim hT hr hx
      refine ⟨v, hC, fun w hw => ?_⟩
      simp [execOp, ho, hs.eval hq, Instr.loadAt, Instr.sureAddr, hv w hw]
    · cases h
  · rename_i x ho
    split at h
    · rename_i q hq
      cases h
      obtain ⟨p, rfl, hx⟩ := onPtr_elim hx
      refine ⟨_, hx, fun w _ => ?_⟩
      simp [execOp, ho, hs.eval hq]
    · rename_i t v hq
      cases h
      refine ⟨_, hx, fun w _ => ?_⟩
      simp [execOp, ho, hs.eval hq]
    · cases h
  · rename_i t x f ho
    split at h
    · rename_i fs ks sz z by' eq' q ht hq
      split at h
      · rename_i off ft sz' hf
        cases h
        obtain ⟨p, rfl, hx⟩ := onPtr_elim hx
        refine ⟨_, hx, fun w _ => ?_⟩
        have hk := (tk_ok hT ht).known (by intro l hl; cases hl)
        obtain ⟨gs, hu, hfs⟩ := dOf_struct hk.d
        obtain ⟨fd, h1, h2, h3, h4⟩ := fieldsOf_get hfs hf
        have h1' : gs[f]? = some fd := by simpa using h1
        simp only [] at h2 h4
        simp [execOp, ho, hs.eval hq, Instr.fieldAt, und_run hu, h1', Instr.sureAddr, fieldPlace, szOf_run h4, h2]
      · cases h
    · cases h
  · rename_i t x i ho
    split at h
    · rename_i e es k0 sz z by' eq' b n' c kk k ht hx' hi
      cases h
      obtain ⟨p, rfl, h1, h2, hx⟩ := onPtr_elim hx
      refine ⟨_, hx, fun w _ => ?_⟩
      have hk := (tk_ok hT ht).known (by intro l hl; cases hl)
      obtain ⟨hu, hes⟩ := dOf_slice hk.d
      simp [execOp, ho, hs.eval hx', hs.eval hi, Instr.indexAt, asIntOf, und_run hu, h1, h2, szOf_run hes]
    · rename_i m e es ks sz z by' eq' q kk k ht hx' hi
      cases h
      obtain ⟨p, rfl, h1, h2, hx⟩ := onPtr_elim hx
      refine ⟨_, hx, fun w _ => ?_⟩
      have hk := (tk_ok hT ht).known (by intro l hl; cases hl)
      obtain ⟨hu, hes⟩ := dOf_array hk.d
      simp [execOp, ho, hs.eval hx', hs.eval hi, Instr.indexAt, asIntOf, und_run hu, h1, h2, szOf_run hes, Instr.sureAddr]
    · cases h
  · rename_i t x i ho
    split at h
    · rename_i k0 sz z by' eq' s kk k ht hx' hi
      cases h
      obtain ⟨b, h1, h2, hx⟩ := hx
      refine ⟨_, hx, fun w _ => ?_⟩
      have hu := dOf_str ((tk_ok hT ht).known (by intro l hl; cases hl)).d
      simp [execOp, ho, hs.eval hx', hs.eval hi, Instr.index, asIntOf, und_run hu, h1, h2]
    · cases h
  · rename_i t x lo hi ho
    split at h
    · rename_i e es k0 sz z by' eq' b m c l h' ht hx' hl hh
      cases h
      have hk := (tk_ok hT ht).known (by intro l hl; cases hl)
      obtain ⟨hu, hes⟩ := dOf_slice hk.d
      obtain ⟨v, hC, hv⟩ := qSlice_elim hu hes (vl := lo.map a.eval) (vh := hi.map a.eval)
        (by rcases bound_run hs hl with ⟨rfl, rfl⟩ | ⟨y, k, i, rfl, e, rfl⟩ <;> simp_all)
        (by rcases bound_run hs hh with ⟨rfl, rfl⟩ | ⟨y, k, i, rfl, e, rfl⟩ <;> simp_all) hx
      refine ⟨v, hC, fun w _ => ?_⟩
      simp [execOp, ho, hs.eval hx', hv w]
    · rename_i k0 sz z by' eq' s l h' ht hx' hl hh
      cases h
      have hu := dOf_str ((tk_ok hT ht).known (by intro l hl; cases hl)).d
      obtain ⟨v, hC, hv⟩ := qCut_elim hu (vl := lo.map a.eval) (vh := hi.map a.eval)
        (by rcases bound_run hs hl with ⟨rfl, rfl⟩ | ⟨y, k, i, rfl, e, rfl⟩ <;> simp_all)
        (by rcases bound_run hs hh with ⟨rfl, rfl⟩ | ⟨y, k, i, rfl, e, rfl⟩ <;> simp_all) hx
      refine ⟨v, hC, fun w _ => ?_⟩
      simp [execOp, ho, hs.eval hx', hv w]
    · cases h
  · rename_i op t x y yt ho
    split at h
    · rename_i k i k' j hx' hy'
      by_cases hk : k = k'
      · subst hk
        rw [decide_eq_true (rfl : k = k), cond_true] at h
        cases h
        obtain ⟨h1, hx⟩ := hx
        refine ⟨_, hx, fun w _ => ?_⟩
        simp [execOp, ho, hs.eval hx', hs.eval hy', eqGuard, binOp, Op.intDiv, h1]
      · simp [hk] at h
    · rename_i k i k' j hx' hy'
      by_cases hk : k = k'
      · subst hk
        rw [decide_eq_true (rfl : k = k), cond_true] at h
        cases h
        obtain ⟨h1, hx⟩ := hx
        refine ⟨_, hx, fun w _ => ?_⟩
        simp [execOp, ho, hs.eval hx', hs.eval hy', eqGuard, binOp, Op.intDiv, h1]
      · simp [hk] at h
    · rename_i k i k' j hx' hy'
      cases h
      obtain ⟨h1, hx⟩ := hx
      refine ⟨_, hx, fun w _ => ?_⟩
      have h1' : ¬ j < 0 := by omega
      simp [execOp, ho, hs.eval hx', hs.eval hy', eqGuard, binOp, Op.shift, h1']
    · rename_i k i k' j hx' hy'
      cases h
      obtain ⟨h1, hx⟩ := hx
      refine ⟨_, hx, fun w _ => ?_⟩
      have h1' : ¬ j < 0 := by omega
      simp [execOp, ho, hs.eval hx', hs.eval hy', eqGuard, binOp, Op.shift, h1']
    · rename_i p q hx' hy'
      split at h
      · rename_i es hd
        cases h
        obtain ⟨h1, hx⟩ := hx
        obtain ⟨e, hu, he⟩ := dOf_ptr (dk_ok hT hd)
        refine ⟨_, hx, fun w hw => ?_⟩
        have := eqPtr_run hu he p q w (fun a b ha hb => by subst ha; subst hb; exact hp a b h1 w hw)
        have e2 : binOp .eql t (.pointer p) (.pointer q) = (do pure (.bool (← Op.equal t (.pointer p) (.pointer q)))) := rfl
        simp [execOp, ho, hs.eval hx', hs.eval hy', eqGuard, e2, this]
      · cases h
    · rename_i p q hx' hy'
      split at h
      · rename_i es hd
        cases h
        obtain ⟨h1, hx⟩ := hx
        obtain ⟨e, hu, he⟩ := dOf_ptr (dk_ok hT hd)
        refine ⟨_, hx, fun w hw => ?_⟩
        have := eqPtr_run hu he p q w (fun a b ha hb => by subst ha; subst hb; exact hp a b h1 w hw)
        have e2 : binOp .neq t (.pointer p) (.pointer q) = (do pure (.bool (!(← Op.equal t (.pointer p) (.pointer q))))) := rfl
        simp [execOp, ho, hs.eval hx', hs.eval hy', eqGuard, e2, this]
      · cases h
    · cases h
  · cases h
end Go.Vc
