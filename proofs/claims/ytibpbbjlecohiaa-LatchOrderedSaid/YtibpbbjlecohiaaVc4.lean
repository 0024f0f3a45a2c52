import Derived.Test.YtibpbbjlecohiaaVc3
namespace Go.Vc
variable {P : Program} {T : Tab}

def eqSem (op : BinOp) (t : TypeId) (x y : Operand) (a b : Value) : Sem Value := do eqGuard op t x y a b; binOp op t a b
def opvO (env : Env) : Option Operand → Option (Option Value)
  | none => some none
  | some x => match opv env x with
    | some v => some (some v)
    | none => none
def semOp (env : Env) (o : Oper) : Option (Sem Value) := match o.op with
  | .alloc t => some (Instr.alloc t true (.tuple #[]))
  | .buildSlice t len parts => match partsV env parts.toList with
    | some ps => some (Instr.buildSlice t len ps.toArray)
    | none => none
  | .binOp op t x y _ => match opv env x, opv env y with
    | some a, some b => some (eqSem op t x y a b)
    | _, _ => none
  | .convert s d x => match opv env x with
    | some v => some (convert s d v)
    | none => none
  | .makeMap t r => match opvO env r with
    | some r => some (Instr.makeMap t r)
    | none => none
  | .makeSlice t l c => match opv env l, opv env c with
    | some a, some b => some (Instr.makeSlice t a b)
    | _, _ => none
  | .slice t x lo hi mx => match opv env x, opvO env lo, opvO env hi, opvO env mx with
    | some a, some l, some h, some m => some (Instr.sliceAt t a l h m)
    | _, _, _, _ => none
  | .index t x i => match opv env x, opv env i with
    | some a, some b => some (Instr.index t a b)
    | _, _ => none
  | .lookup t x i ok => match opv env x, opv env i with
    | some a, some b => some (Instr.lookup t a b ok)
    | _, _ => none
  | .mapEntry t m k => match opv env m, opv env k with
    | some a, some b => some (Instr.mapEntry t a b)
    | _, _ => none
  | .range t x => match opv env x with
    | some a => some (Instr.range t a)
    | none => none
  | .next x b => match opv env x with
    | some a => some (Instr.next a b o.type)
    | none => none
  | .entry x => match opv env x with
    | some a => some (Instr.entry a)
    | none => none
  | .typeAssert x s d ok => match opv env x with
    | some a => some (Instr.typeAssert a s d ok)
    | none => none
  | .call ⟨.builtin b, args, ts⟩ => match opvs env args.toList with
    | some vs => match b with
      | .append => some (Builtin.append_ ts o.type vs.toArray)
      | .copy => some (Builtin.copy_ ts o.type vs.toArray)
      | .delete => some (Builtin.delete_ ts o.type vs.toArray)
      | .len => some (Builtin.len_ ts o.type vs.toArray)
      | .clear => some (Builtin.clear_ ts o.type vs.toArray)
      | .min => some (Builtin.min_ ts o.type vs.toArray)
      | .max => some (Builtin.max_ ts o.type vs.toArray)
      | _ => none
    | none => none
  | _ => none
def semU (env : Env) (o : Oper) : Option (Sem Unit) := match o.op with
  | .mapUpdate t m k x | .insert t m k x => match opv env m, opv env k, opv env x with
    | some a, some b, some c => some (Instr.mapUpdate t a b c)
    | _, _, _ => none
  | .entryStore t m s x => match opv env m, opv env s, opv env x with
    | some a, some b, some c => some (Instr.entryStore t a b c)
    | _, _, _ => none
  | _ => none
def exTy (T : Tab) (t : TypeId) (C : Value → Prop) : Prop := match tk T t with
  | some i => exSh i.sh C
  | none => ∃ v, C v
theorem exTy_any {t : TypeId} {C : Value → Prop} (h : exTy T t C) : ∃ v, C v := by
  unfold exTy at h
  split at h
  · exact exSh_any h
  · exact h
def canStore (w : World) (p : Addr) (n : Nat) : Prop := ∀ i, i < n → (∃ u, w.cell? (p.add i) = some u) ∧ w.frozen? (p.add i) = false
def setCells (p : Addr) : Nat → List Value → World → World
  | _, [], w => w
  | i, v :: vs, w => setCells p (i + 1) vs (w.setCell (p.add i) v)
theorem cell_setCell_some {w : World} {p q : Addr} {u v : Value} (h : w.cell? q = some u) : ∃ u', (w.setCell p v).cell? q = some u' := by
  by_cases e : p = q
  · subst e; exact ⟨_, World.cell?_setCell_same _ _ _ h⟩
  · exact ⟨u, by rw [World.cell?_setCell_other _ _ _ _ e]; exact h⟩
theorem setCells_run {p : Addr} : ∀ {vs : List Value} {i : Nat} {w : World}, vs.all Value.oneCell' = true →
    (∀ j, j < vs.length → (∃ u, w.cell? (p.add (i + j)) = some u) ∧ w.frozen? (p.add (i + j)) = false) → (storeCells p vs i).run P w = .ok () (setCells p i vs w)
  | [], i, w, _, _ => by simp [storeCells, setCells]
  | v :: vs, i, w, h1, h => by
    obtain ⟨⟨u, hu⟩, hf⟩ := h 0 (by simp)
    simp only [Nat.add_zero] at hu hf
    simp only [List.all_cons, Bool.and_eq_true] at h1
    have := setCells_run (p := p) (vs := vs) (i := i + 1) (w := w.setCell (p.add i) v) h1.2 (fun j hj => by
      obtain ⟨⟨u, hu⟩, hf⟩ := h (j + 1) (by simp; omega)
      rw [show i + (j + 1) = i + 1 + j by omega] at hu hf
      exact ⟨cell_setCell_some hu, by rw [World.frozen?_setCell]; exact hf⟩)
    simp [storeCells, setCells, run_store _ _ _ _ _ h1.1, hu, hf, this]
def repL : Nat → List Value → List Value
  | 0, _ => []
  | n + 1, z => z ++ repL n z
def bsV (T : Tab) (t : TypeId) (len : Nat) (ps : List (Nat × Value)) : Option (TypeId × List Value) := match tk T t with
  | some ⟨.slice e es, .one _, _, _, _, _⟩ => match tk T e with
    | some ⟨_, .tup _, _, _, _, _⟩ => none
    | some i => bif Nat.beq i.zero.cells.toList.length es && Nat.blt 0 es && Nat.ble (len * es) 16777216 then (fillS es ps (repL len i.zero.cells.toList)).map fun l => (e, l) else none
    | none => none
  | _ => none
theorem repL_length (z : List Value) : ∀ n, (repL n z).length = n * z.length
  | 0 => by simp [repL]
  | n + 1 => by simp [repL, repL_length z n, Nat.succ_mul, Nat.add_comm]
theorem repL_get (z : List Value) (hz : 0 < z.length) : ∀ (n i : Nat), i < n * z.length → (repL n z)[i]? = z[i % z.length]?
  | 0, i, h => by simp at h
  | n + 1, i, h => by
    simp only [repL]
    rcases Nat.lt_or_ge i z.length with hi | hi
    · rw [List.getElem?_append_left hi, Nat.mod_eq_of_lt hi]
    · rw [List.getElem?_append_right hi, repL_get z hz n (i - z.length) (by rw [Nat.succ_mul] at h; omega)]
      congr 1
      conv => rhs; rw [show i = i - z.length + z.length by omega]
      rw [Nat.add_mod_right]
theorem zeros_eq (z : Array Value) (n : Nat) (hz : 0 < z.size) : (Array.range (n * z.size)).map (z[· % z.size]!) = (repL n z.toList).toArray := by
  apply Array.toList_inj.1
  apply List.ext_getElem?
  intro i
  rcases Nat.lt_or_ge i (n * z.size) with hi | hi
  · rw [repL_get z.toList (by simpa using hz) n i (by simpa using hi)]
    have hm : i % z.size < z.size := Nat.mod_lt _ hz
    simp [hi, hm]
  · rw [List.getElem?_eq_none (by simpa using hi), List.getElem?_eq_none (by simp [repL_length, hi])]
theorem bsV_run (hT : TabOk P T) {t len : Nat} {ps : List (Nat × Value)} {e : TypeId} {l : List Value} (h : bsV T t len ps = some (e, l)) (w : World) :
    (Instr.buildSlice t len ps.toArray).run P w = .ok (.slice (some ⟨w.heap.size, 0, none⟩) len len) (w.alloc (.cells l.toArray e)) := by
  unfold bsV at h
  split at h
  · rename_i e' es k sz z by' eq' ht
    have hk := (tk_ok hT ht).known (by intro l hl; cases hl)
    obtain ⟨hu, hes⟩ := dOf_slice hk.d
    split at h
    · cases h
    · rename_i i hn hi
      cases hb : (Nat.beq i.zero.cells.toList.length es && Nat.blt 0 es && Nat.ble (len * es) 16777216) with
      | false => rw [hb] at h; simp at h
      | true =>
        rw [hb] at h
        simp only [cond_true] at h
        simp only [Bool.and_eq_true] at hb
        obtain ⟨⟨b1, b2⟩, b3⟩ := hb
        have b1 : i.zero.cells.size = es := by simpa using Nat.eq_of_beq_eq_true b1
        have b2 : 0 < es := Nat.le_of_ble_eq_true b2
        have b3 : len * es ≤ 16777216 := Nat.le_of_ble_eq_true b3
        obtain ⟨l', hl, he⟩ := Option.map_eq_some_iff.1 h
        cases he
        have hke := (tk_ok hT hi).known (fun l hl => hn i.d l i.size i.zero i.bytes i.eq (by rw [← hl]))
        obtain ⟨j, hj, _, hz, _⟩ := hke.info
        have hz' : (zeroValue e).run P w = .ok i.zero w := by simp [zeroValue, typeInfo, hj, hz]
        have hr := fillS_spec ps (repL len i.zero.cells.toList).toArray (r := l) (by simpa using hl)
        have hze := zeros_eq i.zero.cells len (by omega)
        rw [b1] at hze
        have n1 : ¬ 16777216 < len * es := by omega
        by_cases h0 : len = 0
        · subst h0
          have hr' : Instr.fill (fun i => some (i * es, es)) #[] ps = some l.toArray := by simpa [repL] using hr
          simp [Instr.buildSlice, und_run hu, szOf_run hes, newRow, Array.range_zero', hr']
        · have h1 : len * es ≠ 0 := Nat.mul_ne_zero h0 (by omega)
          simp [Instr.buildSlice, und_run hu, szOf_run hes, newRow, n1, hz', b1, hze, hr]
          exact fun h => absurd h h1
    · cases h
  · cases h

def szK (T : Tab) (t : Nat) : Option Nat := match tk T t with
  | some ⟨_, .tup _, _, _, _, _⟩ => none
  | some i => some i.size
  | none => none
theorem szK_ok (hT : TabOk P T) {t n : Nat} (h : szK T t = some n) : szOf P t = some n := by
  unfold szK at h
  split at h
  · cases h
  · rename_i i hn hi
    cases h
    obtain ⟨j, hj, hsz, _⟩ := ((tk_ok hT hi).known (fun l hl => hn i.d l i.size i.zero i.bytes i.eq (by rw [← hl]))).info
    simp [szOf, hj, hsz]
  · cases h
def vcSem (P : Program) (T : Tab) (env : Env) (o : Oper) (w : World) (C : Value → World → Prop) : Prop := match semOp env o with
  | some s => exTy T o.type fun v => ∃ w', s.run P w = .ok v w' ∧ C v w'
  | none => match semU env o with
    | some s => ∃ w', s.run P w = .ok () w' ∧ C undef w'
    | none => False
/-- what the call of a function value comes to -/
def callV (P : Program) (F : List Nat) (fv : Value) (vs : List Value) (w : World) (K : Ending → World → Prop) : Prop := match fv with
  | .func (.func g) first captured => bif F.elem g then Calls P g (first.toList ++ vs ++ captured.toList).toArray w K else False
  | _ => False
def nextV : Option (Value × Value) → Value
  | none => .tuple #[.bool false]
  | some p => .tuple #[.bool true, p.1, p.2]
def onNext (r : Option (Value × Value)) (X : Prop) (C : Value → Value → Prop) : Prop := match r with
  | none => X
  | some p => C p.1 p.2
def vcE (P : Program) (T : Tab) (F : List Nat) (env : Env) (o : Oper) (w : World) (C : Value → World → Prop) : Prop := match o.op with
  | .store t x y => match opv env x, opv env y, szK T t with
    | some (.pointer q), some v, some sz => onPtr q fun p => bif Nat.beq v.cells.toList.length sz && v.cells.toList.all Value.oneCell' then canStore w p sz ∧ ∀ w1, w1 = setCells p 0 v.cells.toList w → C undef w1 else False
    | _, _, _ => False
  | .box t x => onV (opv env x) fun v => ∀ w1, w1 = w.alloc (.cells v.cells t) → C (.pointer (some ⟨w.heap.size, 0, none⟩)) w1
  | .alloc t => match tk T t with
    | some ⟨_, .tup _, _, _, _, _⟩ => False
    | some i => ∀ w1, w1 = w.alloc (.cells i.zero.cells t) → C (.pointer (some ⟨w.heap.size, 0, none⟩)) w1
    | none => False
  | .buildSlice t len parts => match partsV env parts.toList with
    | some ps => match bsV T t len ps with
      | some (e, l) => ∀ w1, w1 = w.alloc (.cells l.toArray e) → C (.slice (some ⟨w.heap.size, 0, none⟩) len len) w1
      | none => False
    | none => False
  | .makeSlice t x y => match opv env x, opv env y, tk T t with
    | some (.int _ a), some (.int _ b), some ⟨.slice e es, .one _, _, _, _, _⟩ => match tk T e with
      | some ⟨_, .tup _, _, _, _, _⟩ => False
      | some i => 0 ≤ a ∧ a ≤ b ∧ (i.bytes : Int) * b ≤ 281474976710656 ∧ b ≤ 9223372036854775807 ∧
          ∀ w1, w1 = w.alloc (.cells (madeCells i.zero.cells (b.toNat * es)) e) → C (.slice (some ⟨w.heap.size, 0, none⟩) a.toNat b.toNat) w1
      | none => False
    | _, _, _ => False
  | .call ⟨.value f, args, _⟩ => match opv env f, opvs env args.toList with
    | some fv, some vs => callV P F fv vs w fun e w' => exTy T o.type fun v => e = .returned v ∧ C v w'
    | _, _ => False
  | .call ⟨.invoke r name, args, _⟩ => match opv env r, opvs env args.toList with
    | some (.iface t v), some vs => ∃ (g : Nat) (rv : Value), (method (P.types.size + Made.depth) t v name).run P w = .ok (g, rv) w ∧ F.elem g = true ∧
        Calls P g (rv :: vs).toArray w fun e w' => exTy T o.type fun v => e = .returned v ∧ C v w'
    | _, _ => False
  | .nilCheck x => match opv env x with
    | some (.func (.method name) first captured) => match first.toList, captured.toList with
      | [.iface t v], [] => (nilAhead (P.types.size + Made.depth) t v name).run P w = .ok (some false) w ∧ C (.func (.method name) #[.iface t v] #[]) w
      | _, _ => False
    | _ => False
  | .range t x => match opv env x with
    | some a => ∃ (p : Option Addr) (w' : World), (Instr.range t a).run P w = .ok (.pointer p) w' ∧ C (.pointer p) w'
    | none => False
  | .next x b => match opv env x with
    | some a => ∃ (r : Option (Value × Value)) (w' : World), (Instr.next a b o.type).run P w = .ok (nextV r) w' ∧ onNext r (C (.tuple #[.bool false]) w') fun k v => C (.tuple #[.bool true, k, v]) w'
    | none => False
  | _ => vcSem P T env o w C
/-- a comparison with a nil interface: its left side may be any value -/
def nilCmp (env : Env) (o : Oper) : Bool := match o.op with
  | .binOp _ _ _ y _ => match opv env y with
    | some .nilIface => true
    | _ => false
  | _ => false
def vcOp (P : Program) (T : Tab) (F : List Nat) (env : Env) (o : Oper) (w : World) (C : Value → World → Prop) : Prop := bif nilCmp env o then vcE P T F env o w C else match pureV T env o with
  | some v => C v w
  | none => match qOp (rdW w) (ptrOk w) T env o (fun v => C v w) with
    | some X => X
    | none => vcE P T F env o w C

structure CallOk (P : Program) (f : Nat) : Prop where
  h : ∃ fn, P.funcs[f]? = some fn ∧ fn.body.isNone = false ∧ (fn.name == "runtime.NumGoroutine") = false
def FOk (P : Program) (F : List Nat) : Prop := ∀ f ∈ F, CallOk P f

theorem wp_of_run {o : Oper} {a : Act} {w w' : World} {v : Value} {K : Act → World → Prop} {Q : Exit → Act → World → Prop}
    (h : (execOp a.eval o).run P w = .ok (.value v) w') (hK : K (a.put o.dst v) w') : o.wp P a w K Q := by
  unfold Oper.wp; rw [h]; exact hK
theorem opvO_eval {n : Nat} {env : Env} {a : Act} (hs : Sat n env a) {x : Option Operand} {l : Option Value} (h : opvO env x = some l) : x.map a.eval = l := by
  cases x with
  | none => simp [opvO] at h; subst h; rfl
  | some y =>
    simp only [opvO] at h
    split at h
    · rename_i v hv; cases h; simp [hs.eval hv]
    · cases h
theorem semOp_eq {n : Nat} {env : Env} {a : Act} (hs : Sat n env a) {o : Oper} {s : Sem Value} (h : semOp env o = some s) : execOp a.eval o = (do pure (.value (← s))) := by
  unfold semOp at h
  unfold execOp
  split at h
  · rename_i ho; cases h; simp only [ho]
  · rename_i t len parts ho
    split at h
    · rename_i ps hps
      cases h
      have e : (parts.map fun (x : Nat × Operand) => (x.1, a.eval x.2)) = ps.toArray := by
        exact Array.toList_inj.1 (by rw [Array.toList_map]; exact parts_eval hs hps)
      simp only [ho, e]
    · cases h
  · rename_i op t x y yt ho
    split at h
    · rename_i p q hp hq; cases h; simp only [ho, hs.eval hp, hs.eval hq, eqSem]
    · cases h
  · rename_i x ho
    split at h
    · rename_i v hv; cases h; simp only [ho, hs.eval hv]
    · cases h
  · rename_i t r ho
    split at h
    · rename_i r' hr; cases h; simp only [ho, opvO_eval hs hr]
    · cases h
  · rename_i t l c ho
    split at h
    · rename_i p q hp hq; cases h; simp only [ho, hs.eval hp, hs.eval hq]
    · cases h
  · rename_i t x lo hi mx ho
    split at h
    · rename_i p l h' m hp hl hh hm; cases h; simp only [ho, hs.eval hp, opvO_eval hs hl, opvO_eval hs hh, opvO_eval hs hm]
    · cases h
  · rename_i t x i ho
    split at h
    · rename_i p q hp hq; cases h; simp only [ho, hs.eval hp, hs.eval hq]
    · cases h
  · rename_i t x i ok ho
    split at h
    · rename_i p q hp hq; cases h; simp only [ho, hs.eval hp, hs.eval hq]
    · cases h
  · rename_i t m k ho
    split at h
    · rename_i p q hp hq; cases h; simp only [ho, hs.eval hp, hs.eval hq]
    · cases h
  · rename_i t x ho
    split at h
    · rename_i p hp; cases h; simp only [ho, hs.eval hp]
    · cases h
  · rename_i x b ho
    split at h
    · rename_i p hp; cases h; simp only [ho, hs.eval hp]
    · cases h
  · rename_i x ho
    split at h
    · rename_i p hp; cases h; simp only [ho, hs.eval hp]
    · cases h
  · rename_i x s' d ok ho
    split at h
    · rename_i p hp; cases h; simp only [ho, hs.eval hp]
    · cases h
  · rename_i b args ts ho
    split at h
    · rename_i vs hvs
      have e1 : args.map a.eval = vs.toArray := Array.toList_inj.1 (by rw [Array.toList_map]; exact hs.evals hvs)
      cases b <;> simp only [Option.some.injEq, reduceCtorEq] at h <;> subst h <;> simp only [ho, resolve, pure_bind, invoke, e1, builtin]
    · cases h
  · cases h
theorem semU_eq {n : Nat} {env : Env} {a : Act} (hs : Sat n env a) {o : Oper} {s : Sem Unit} (h : semU env o = some s) : execOp a.eval o = (do s; pure .skip) := by
  unfold semU at h
  unfold execOp
  split at h
  · rename_i t m k x ho
    split at h
    · rename_i p q r hp hq hr; cases h; simp only [ho, hs.eval hp, hs.eval hq, hs.eval hr]
    · cases h
  · rename_i t m k x ho
    split at h
    · rename_i p q r hp hq hr; cases h; simp only [ho, hs.eval hp, hs.eval hq, hs.eval hr]
    · cases h
  · rename_i t m k x ho
    split at h
    · rename_i p q r hp hq hr; cases h; simp only [ho, hs.eval hp, hs.eval hq, hs.eval hr]
    · cases h
  · cases h
theorem vcSem_sound {n : Nat} {env : Env} {a : Act} (hs : Sat n env a) {o : Oper} {w : World} {C : Value → World → Prop} (h : vcSem P T env o w C)
    {K : Act → World → Prop} {Q : Exit → Act → World → Prop} (hK : ∀ v w', C v w' → K (a.put o.dst v) w') : o.wp P a w K Q := by
  unfold vcSem at h
  split at h
  · rename_i s hsem
    obtain ⟨v, w', hr, hC⟩ := exTy_any h
    exact wp_of_run (by rw [semOp_eq hs hsem]; simp [hr]) (hK _ _ hC)
  · split at h
    · rename_i s hsem
      obtain ⟨w', hr, hC⟩ := h
      unfold Oper.wp
      rw [semU_eq hs hsem]
      simp only [Sem.run_bind, hr, Result.andThen_ok, Sem.run_pure]
      exact hK _ _ hC
    · exact h.elim
theorem vcE_sound {F : List Nat} (hT : TabOk P T) (hF : FOk P F) {n : Nat} {env : Env} {a : Act} (hs : Sat n env a) {o : Oper} {w : World} {C : Value → World → Prop} (h : vcE P T F env o w C)
    {K : Act → World → Prop} {Q : Exit → Act → World → Prop} (hK : ∀ v w', C v w' → K (a.put o.dst v) w') : o.wp P a w K Q := by
  unfold vcE at h
  split at h
  · rename_i t x y ho
    split at h
    · rename_i q v sz hq hv hi
      obtain ⟨p, rfl, h⟩ := onPtr_elim h
      cases hc : (Nat.beq v.cells.toList.length sz && v.cells.toList.all Value.oneCell') with
      | false => rw [hc] at h; exact h.elim
      | true =>
        rw [hc] at h
        simp only [cond_true] at h
        simp only [Bool.and_eq_true] at hc
        obtain ⟨hcan, h⟩ := h
        have hl0 : v.cells.toList.length = sz := Nat.eq_of_beq_eq_true hc.1
        have hr := setCells_run (P := P) (p := p) (i := 0) (w := w) hc.2 (fun j hj => by rw [Nat.zero_add]; exact hcan j (by omega))
        have hC := h _ rfl
        have hl : v.cells.size = sz := by simpa using Nat.eq_of_beq_eq_true hc.1
        have e : (sizeOf t).run P w = .ok sz w := szOf_run (szK_ok hT hi) w
        unfold Oper.wp
        have : (execOp a.eval o).run P w = .ok .skip (setCells p 0 v.cells.toList w) := by
          simp [execOp, ho, hs.eval hq, hs.eval hv, Instr.storeAt, Instr.sureAddr, storeVar, e, hl]
          rw [hr]; rfl
        rw [this]
        exact hK _ _ hC
    · exact h.elim
  · rename_i t x ho
    obtain ⟨v, hv, hC⟩ := onV_elim h
    refine wp_of_run ?_ (hK _ _ (hC _ rfl))
    simp [execOp, ho, hs.eval hv, Instr.box, newVar, newRow]
  · rename_i t ho
    split at h
    · exact h.elim
    · rename_i i hn hi
      obtain ⟨j, hj, _, hz, _⟩ := ((tk_ok hT hi).known (fun l hl => hn i.d l i.size i.zero i.bytes i.eq (by rw [← hl]))).info
      refine wp_of_run ?_ (hK _ _ (h _ rfl))
      simp [execOp, ho, Instr.alloc, zeroValue, typeInfo, hj, hz, newVar, newRow]
    · exact h.elim
  · rename_i t len parts ho
    split at h
    · rename_i ps hps
      split at h
      · rename_i e l hl
        have e1 : (parts.map fun (x : Nat × Operand) => (x.1, a.eval x.2)) = ps.toArray := Array.toList_inj.1 (by rw [Array.toList_map]; exact parts_eval hs hps)
        refine wp_of_run ?_ (hK _ _ (h _ rfl))
        simp only [execOp, ho, e1, Sem.run_bind, bsV_run hT hl, Result.andThen_ok, Sem.run_pure]
      · exact h.elim
    · exact h.elim
  · rename_i t x y ho
    split at h
    · rename_i ka m kb b e es k sz z by' eq' hx hy ht
      split at h
      · exact h.elim
      · rename_i i hn hi
        obtain ⟨h1, h2, h3, h4, hC⟩ := h
        obtain ⟨j, hj, hsz, hz, hby⟩ := ((tk_ok hT hi).known (fun l hl => hn i.d l i.size i.zero i.bytes i.eq (by rw [← hl]))).info
        obtain ⟨hu, hes⟩ := dOf_slice ((tk_ok hT ht).known (by intro l hl; cases hl)).d
        have e1 : j.size = es := by simpa [szOf, hj] using hes
        have := run_make w t e j i.zero hu hj hz ka kb m b h1 h2 (by rw [hby]; exact h3) h4
        rw [e1] at this
        refine wp_of_run ?_ (hK _ _ (hC _ rfl))
        simp only [execOp, ho, hs.eval hx, hs.eval hy, Sem.run_bind, this, Result.andThen_ok, Sem.run_pure]
      · exact h.elim
    · exact h.elim
  · rename_i f args ts ho
    split at h
    · rename_i fv vs hf hvs
      unfold callV at h
      split at h
      · rename_i g first captured
        cases hc : F.elem g with
        | false => rw [hc] at h; exact h.elim
        | true =>
          rw [hc] at h
          simp only [cond_true] at h
          obtain ⟨fn, h1, h2, h3⟩ := (hF g (by simpa using hc)).h
          have e1 : args.map a.eval = vs.toArray := Array.toList_inj.1 (by rw [Array.toList_map]; exact hs.evals hvs)
          have e2 : first ++ vs.toArray ++ captured = (first.toList ++ vs ++ captured.toList).toArray := by
            apply Array.toList_inj.1; simp
          have : (execOp a.eval o).run P w = .ok (.enter g (first.toList ++ vs ++ captured.toList).toArray) w := by
            simp only [execOp, ho, resolve, Deferred.ofValue, hs.eval hf, e1, Sem.run_bind, Sem.run_pure, Result.andThen_ok, invoke, callFunc, run_program, h1, h3, h2, e2]
            simp
          unfold Oper.wp
          rw [this]
          refine Calls.mono h fun e w' he => ?_
          obtain ⟨v, rfl, hC⟩ := exTy_any he
          exact hK _ _ hC
      · exact h.elim
    · exact h.elim
  · rename_i r name args ts ho
    split at h
    · rename_i t v vs hr hvs
      obtain ⟨g, rv, hm, hc, h⟩ := h
      obtain ⟨fn, h1, h2, h3⟩ := (hF g (by simpa using hc)).h
      have e1 : args.map a.eval = vs.toArray := Array.toList_inj.1 (by rw [Array.toList_map]; exact hs.evals hvs)
      have e2 : (#[Value.iface t v] ++ vs.toArray).extract 1 (#[Value.iface t v] ++ vs.toArray).size = vs.toArray := by
        apply Array.toList_inj.1; simp
      have e3 : (#[Value.iface t v] ++ vs.toArray)[0]? = some (.iface t v) := by simp
      have e4 : #[rv] ++ vs.toArray = (rv :: vs).toArray := by apply Array.toList_inj.1; simp
      have : (execOp a.eval o).run P w = .ok (.enter g (rv :: vs).toArray) w := by
        simp only [execOp, ho, resolve, hs.eval hr, e1, Sem.run_bind, Sem.run_pure, Result.andThen_ok, invoke, e3, e2, callMethod, run_program, hm, callFunc, h1, h3, h2, e4]
        simp
      unfold Oper.wp
      rw [this]
      refine Calls.mono h fun e w' he => ?_
      obtain ⟨v, rfl, hC⟩ := exTy_any he
      exact hK _ _ hC
    · exact h.elim
  · rename_i x ho
    split at h
    · rename_i name first captured hx
      split at h
      · rename_i t v hf hc
        have e1 : first = #[.iface t v] := Array.toList_inj.1 (by rw [hf])
        have e2 : captured = #[] := Array.toList_inj.1 (by rw [hc])
        subst e1 e2
        obtain ⟨hn, hC⟩ := h
        refine wp_of_run ?_ (hK _ _ hC)
        simp [execOp, ho, hs.eval hx, run_program, hn]
      · exact h.elim
    · exact h.elim
  · rename_i t x ho
    split at h
    · rename_i v hv
      obtain ⟨q, w', hr, hC⟩ := h
      refine wp_of_run (v := .pointer q) (w' := w') ?_ (hK _ _ hC)
      simp [execOp, ho, hs.eval hv, hr]
    · exact h.elim
  · rename_i x b ho
    split at h
    · rename_i v hv
      obtain ⟨r, w', hr, hC⟩ := h
      refine wp_of_run (v := nextV r) (w' := w') ?_ (hK _ _ ?_)
      · simp [execOp, ho, hs.eval hv, hr]
      · cases r with
        | none => exact hC
        | some p => exact hC
    · exact h.elim
  · exact vcSem_sound hs h hK
theorem vcOp_sound {F : List Nat} (hT : TabOk P T) (hF : FOk P F) {n : Nat} {env : Env} {a : Act} (hs : Sat n env a) {o : Oper} {w : World} {C : Value → World → Prop} (h : vcOp P T F env o w C)
    {K : Act → World → Prop} {Q : Exit → Act → World → Prop} (hK : ∀ v w', C v w' → K (a.put o.dst v) w') : o.wp P a w K Q := by
  unfold vcOp at h
  cases hn : nilCmp env o with
  | true => rw [hn] at h; exact vcE_sound hT hF hs h hK
  | false =>
  rw [hn] at h
  simp only [cond_false] at h
  split at h
  · rename_i v hv
    exact wp_of_run (pureV_run hT hs hv w) (hK _ _ h)
  · split at h
    · rename_i X hX
      obtain ⟨v, hC, hr⟩ := qOp_elim hT (rdW_ok w) (ptrOk_ok w) hs hX h
      exact wp_of_run (hr w rfl) (hK _ _ hC)
    · exact vcE_sound hT hF hs h hK
end Go.Vc
