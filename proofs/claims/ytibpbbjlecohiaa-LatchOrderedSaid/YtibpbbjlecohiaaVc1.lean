import Derived.WalkKit
import Derived.OrdersHeld
import Derived.StillTail
namespace Go.Vc

abbrev Env := List (Nat × Value)
def lk : Env → Nat → Option Value
  | [], _ => none
  | p :: r, j => bif Nat.beq p.1 j then some p.2 else lk r j
def opv (env : Env) : Operand → Option Value
  | .tmp t => lk env t
  | .const v => some v
  | .global g => some (.pointer (some ⟨g, 0, none⟩))
  | .func f => some (.func (.func f) #[] #[])
def opvs (env : Env) : List Operand → Option (List Value)
  | [] => some []
  | x :: r => match opv env x, opvs env r with
    | some v, some vs => some (v :: vs)
    | _, _ => none

structure Sat (n : Nat) (env : Env) (a : Act) : Prop where
  size : a.tmps.size = n
  get : ∀ i v, lk env i = some v → a.tmps[i]? = some v

theorem nbeq {a b : Nat} (h : a ≠ b) : Nat.beq a b = false := by
  cases hb : Nat.beq a b
  · rfl
  · exact absurd (Nat.eq_of_beq_eq_true hb) h

theorem Sat.eval {n : Nat} {env : Env} {a : Act} (h : Sat n env a) {x : Operand} {v : Value} (hx : opv env x = some v) : a.eval x = v := by
  cases x with
  | tmp t => have := h.get t v hx; simp [Act.eval, this]
  | const u => simpa [opv, Act.eval] using hx
  | global g => simpa [opv, Act.eval] using hx
  | func f => simpa [opv, Act.eval] using hx

theorem Sat.evals {n : Nat} {env : Env} {a : Act} (h : Sat n env a) : ∀ {l : List Operand} {vs : List Value}, opvs env l = some vs → l.map a.eval = vs
  | [], vs, hx => by simp [opvs] at hx; subst hx; rfl
  | x :: r, vs, hx => by
    simp only [opvs] at hx
    split at hx
    · rename_i v us hv hus
      cases hx
      rw [List.map_cons, h.eval hv, h.evals hus]
    · cases hx

theorem Sat.put {n : Nat} {env : Env} {a : Act} (h : Sat n env a) {d : Nat} (hd : d < n) (v : Value) : Sat n ((d, v) :: env) (a.put (some d) v) := by
  refine ⟨by simp [Act.put, h.size], fun i u hi => ?_⟩
  simp only [lk] at hi
  by_cases e : d = i
  · subst e
    simp at hi
    subst hi
    simp [Act.put, h.size, hd]
  · have : Nat.beq d i = false := nbeq e
    rw [this] at hi
    simp only [cond_false] at hi
    simp [Act.put, Array.getElem?_setIfInBounds_ne e, h.get i u hi]

theorem Sat.note {n : Nat} {env : Env} {a : Act} (h : Sat n env a) {d : Nat} {v u : Value} (hv : lk env d = some v) (e : v = u) : Sat n ((d, u) :: env) a := by
  refine ⟨h.size, fun i x hi => ?_⟩
  simp only [lk] at hi
  by_cases e' : d = i
  · subst e'
    simp at hi
    subst hi
    rw [← e]; exact h.get d v hv
  · have : Nat.beq d i = false := nbeq e'
    rw [this] at hi
    exact h.get i x hi

/-! ## kinds, shapes, the table of types -/
inductive Kd where
  | int (k : IntKind) | bool | str | ptr | sl | map | any | fn (k : Nat)
def exKd : Kd → (Value → Prop) → Prop
  | .int k, C => ∃ n : Int, C (.int k n)
  | .bool, C => ∃ b : Bool, C (.bool b)
  | .str, C => ∃ s : ByteArray, C (.string s)
  | .ptr, C => ∃ p : Option Addr, C (.pointer p)
  | .sl, C => ∃ (p : Option Addr) (n c : Nat), C (.slice p n c)
  | .map, C => ∃ r : Option Nat, C (.map r)
  | .any, C => ∃ v : Value, C v
  | .fn k, C => C (.func (.func k) #[] #[])
def exKs : List Kd → (List Value → Prop) → Prop
  | [], C => C []
  | k :: ks, C => exKd k fun v => exKs ks fun vs => C (v :: vs)
inductive Sh where
  | one (k : Kd) | agg (ks : List Kd) | tup (l : List (Bool × List Kd))
def exTup : List (Bool × List Kd) → (List Value → Prop) → Prop
  | [], C => C []
  | (true, ks) :: r, C => exKs ks fun vs => exTup r fun us => C (.agg vs.toArray :: us)
  | (false, []) :: _, _ => False
  | (false, k :: _) :: r, C => exKd k fun v => exTup r fun us => C (v :: us)
/-- one of these functions -/
def exFns : List (Bool × List Kd) → (Value → Prop) → Prop
  | [], _ => False
  | (_, ks) :: r, C => C (.func (.func ks.length) #[] #[]) ∨ exFns r C
def exSh : Sh → (Value → Prop) → Prop
  | .one k, C => exKd k C
  | .agg ks, C => exKs ks fun vs => C (.agg vs.toArray)
  | .tup ((false, []) :: r), C => exFns r C
  | .tup l, C => exTup l fun vs => C (.tuple vs.toArray)
theorem exKd_any {k : Kd} {C : Value → Prop} (h : exKd k C) : ∃ v, C v := by
  cases k with
  | sl => obtain ⟨_, _, _, h⟩ := h; exact ⟨_, h⟩
  | fn k => exact ⟨_, h⟩
  | _ => obtain ⟨_, h⟩ := h; exact ⟨_, h⟩
theorem exKs_any : ∀ {ks : List Kd} {C : List Value → Prop}, exKs ks C → ∃ vs, vs.length = ks.length ∧ C vs
  | [], _, h => ⟨[], rfl, h⟩
  | k :: ks, C, h => by
    obtain ⟨v, h⟩ := exKd_any h
    obtain ⟨vs, hl, h⟩ := exKs_any h
    exact ⟨_, by simp [hl], h⟩
theorem exTup_any : ∀ {l : List (Bool × List Kd)} {C : List Value → Prop}, exTup l C → ∃ vs, C vs
  | [], _, h => ⟨[], h⟩
  | (true, ks) :: r, C, h => by
    obtain ⟨v, _, h⟩ := exKs_any h
    obtain ⟨vs, h⟩ := exTup_any h
    exact ⟨_, h⟩
  | (false, []) :: _, _, h => h.elim
  | (false, k :: _) :: r, C, h => by
    obtain ⟨v, h⟩ := exKd_any h
    obtain ⟨vs, h⟩ := exTup_any h
    exact ⟨_, h⟩
theorem exFns_any : ∀ {l : List (Bool × List Kd)} {C : Value → Prop}, exFns l C → ∃ v, C v
  | [], _, h => h.elim
  | (_, ks) :: r, C, h => by
    rcases h with h | h
    · exact ⟨_, h⟩
    · exact exFns_any h
theorem exSh_any {s : Sh} {C : Value → Prop} (h : exSh s C) : ∃ v, C v := by
  cases s with
  | one k => exact exKd_any h
  | agg ks => obtain ⟨_, _, h⟩ := exKs_any h; exact ⟨_, h⟩
  | tup l =>
    unfold exSh at h
    split at h
    · exact exKd_any (by assumption)
    · obtain ⟨_, _, h⟩ := exKs_any (by assumption); exact ⟨_, h⟩
    · exact exFns_any h
    · obtain ⟨_, h⟩ := exTup_any h; exact ⟨_, h⟩

inductive D where
  | struct (fs : List (Nat × TypeId × Nat)) | array (n : Nat) (e : TypeId) (es : Nat) | slice (e : TypeId) (es : Nat)
  | int (k : IntKind) | str | bool | ptr (es : Nat) | map | iface | other
structure TI where
  d : D
  sh : Sh
  size : Nat
  zero : Value
  bytes : Nat
  eq : Bool
abbrev Tab := List (Nat × TI)
def tk : Tab → Nat → Option TI
  | [], _ => none
  | p :: r, j => bif Nat.beq p.1 j then some p.2 else tk r j
def szOf (P : Program) (t : TypeId) : Option Nat := (P.info? t).map (·.size)
def fieldsOf (P : Program) : List Field → Option (List (Nat × TypeId × Nat))
  | [] => some []
  | f :: r => match szOf P f.type, fieldsOf P r with
    | some n, some l => some ((f.offset, f.type, n) :: l)
    | _, _ => none
def dOf (P : Program) (t : TypeId) : Option D :=
  match P.underlying t with
  | some (.struct fs) => (fieldsOf P fs.toList).map .struct
  | some (.array n e) => (szOf P e).map (.array n e)
  | some (.slice e) => (szOf P e).map (.slice e)
  | some (.int k) => some (.int k)
  | some .string => some .str
  | some .bool => some .bool
  | some (.pointer e) => (szOf P e).map .ptr
  | some (.map _ _) => some .map
  | some (.interface _) => some .iface
  | some _ => some .other
  | none => none
def D.isAgg : D → Bool
  | .struct _ | .array _ _ _ => true
  | _ => false
/-! equality of structs, cell by cell -/
def eqLeafs (P : Program) (g : TypeId → Option (List Kd)) : List Field → Nat → Option (List Kd)
  | [], _ => some []
  | f :: r, off => match g f.type, szOf P f.type with
    | some ks, some n => bif (f.name != "_") && Nat.beq f.offset off && Nat.beq ks.length n then (eqLeafs P g r (off + n)).map (ks ++ ·) else none
    | _, _ => none
def eqLeaf (P : Program) : Nat → TypeId → Option (List Kd)
  | 0, _ => none
  | d + 1, t => match P.underlying t with
    | some (.int k) => some [.int k]
    | some .bool => some [.bool]
    | some .string => some [.str]
    | some (.struct fs) => bif P.stoodInHeld t then none else eqLeafs P (eqLeaf P d) fs.toList 0
    | _ => none
def fitB : List Kd → List Value → Bool
  | [], [] => true
  | .int k :: ks, .int k' _ :: vs => decide (k = k') && fitB ks vs
  | .bool :: ks, .bool _ :: vs => fitB ks vs
  | .str :: ks, .string _ :: vs => fitB ks vs
  | _, _ => false
def eqL : List Value → List Value → Bool
  | [], [] => true
  | .int _ a :: xs, .int _ b :: ys => a == b && eqL xs ys
  | .bool a :: xs, .bool b :: ys => a == b && eqL xs ys
  | .string a :: xs, .string b :: ys => a.toList == b.toList && eqL xs ys
  | _, _ => false
def shOk (i : TI) : Bool := match i.sh with
  | .one _ => !i.d.isAgg && Nat.beq i.size 1
  | .agg ks => i.d.isAgg && Nat.beq i.size ks.length
  | .tup _ => true
def TOk (P : Program) (x : Nat × TI) : Prop := match x.2.sh with
  | .tup _ => True
  | _ => dOf P x.1 = some x.2.d ∧ (P.info? x.1).map (fun j => (j.size, j.zero, j.bytes)) = some (x.2.size, some x.2.zero, x.2.bytes) ∧ shOk x.2 = true ∧ (x.2.eq = true → ∃ ks, x.2.sh = .agg ks ∧ eqLeaf P 8 x.1 = some ks ∧ P.eqGuardType P.depth x.1 = false)
def TabOk (P : Program) (T : Tab) : Prop := ∀ x ∈ T, TOk P x
theorem tk_ok {P : Program} : ∀ {T : Tab}, TabOk P T → ∀ {t : Nat} {i : TI}, tk T t = some i → TOk P (t, i)
  | [], _, _, _, h => by cases h
  | p :: r, hT, t, i, h => by
    simp only [tk] at h
    by_cases e : p.1 = t
    · subst e
      simp at h
      subst h
      exact hT p (by simp)
    · have : Nat.beq p.1 t = false := nbeq e
      rw [this] at h
      exact tk_ok (fun x hx => hT x (by simp [hx])) h
structure Known (P : Program) (t : TypeId) (i : TI) : Prop where
  d : dOf P t = some i.d
  und : ∃ u, P.underlying t = some u
  info : ∃ j, P.info? t = some j ∧ j.size = i.size ∧ j.zero = some i.zero ∧ j.bytes = i.bytes
theorem TOk.known {P : Program} {t : TypeId} {i : TI} (h : TOk P (t, i)) (hs : ∀ l, i.sh ≠ .tup l) : Known P t i := by
  unfold TOk at h
  split at h
  · rename_i l hl; exact absurd hl (hs l)
  · obtain ⟨h1, h2, _, _⟩ := h
    refine ⟨h1, ?_, ?_⟩
    · simp only [dOf] at h1
      cases hu : P.underlying t with
      | none => rw [hu] at h1; cases h1
      | some u => exact ⟨u, rfl⟩
    · simp only [Option.map_eq_some_iff, Prod.mk.injEq] at h2
      exact h2
theorem TOk.eq {P : Program} {t : TypeId} {i : TI} (h : TOk P (t, i)) (hs : ∀ l, i.sh ≠ .tup l) (he : i.eq = true) : ∃ ks, i.sh = .agg ks ∧ eqLeaf P 8 t = some ks ∧ P.eqGuardType P.depth t = false := by
  unfold TOk at h
  split at h
  · rename_i l hl; exact absurd hl (hs l)
  · exact h.2.2.2 he
theorem TOk.sh {P : Program} {t : TypeId} {i : TI} (h : TOk P (t, i)) (hs : ∀ l, i.sh ≠ .tup l) : shOk i = true := by
  unfold TOk at h
  split at h
  · rename_i l hl; exact absurd hl (hs l)
  · exact h.2.2.1

/-! ## operations that yield a value in whatever world -/
def dk (T : Tab) (t : Nat) : Option D := match tk T t with
  | some ⟨_, .tup _, _, _, _, _⟩ => none
  | some i => some i.d
  | none => none
def binV (d : Option D) (op : BinOp) : Value → Value → Option Value
  | .int k a, .int k' b => bif decide (k = k') then
      match op with
      | .add => some (.int k (k.wrap (a + b)))
      | .sub => some (.int k (k.wrap (a - b)))
      | .mul => some (.int k (k.wrap (a * b)))
      | .and => some (.int k (k.wrap (BitVec.ofInt k.bits a &&& BitVec.ofInt k.bits b).toNat))
      | .or => some (.int k (k.wrap (BitVec.ofInt k.bits a ||| BitVec.ofInt k.bits b).toNat))
      | .xor => some (.int k (k.wrap (BitVec.ofInt k.bits a ^^^ BitVec.ofInt k.bits b).toNat))
      | .andNot => some (.int k (k.wrap (BitVec.ofInt k.bits a &&& ~~~BitVec.ofInt k.bits b).toNat))
      | .eql => some (.bool (a == b))
      | .neq => some (.bool (a != b))
      | .lss => some (.bool (decide (a < b)))
      | .leq => some (.bool (decide (a ≤ b)))
      | .gtr => some (.bool (decide (a > b)))
      | .geq => some (.bool (decide (a ≥ b)))
      | _ => none
    else none
  | .bool a, .bool b => match d, op with
    | some .bool, .eql => some (.bool (a == b))
    | some .bool, .neq => some (.bool (!(a == b)))
    | _, _ => none
  | .string a, .string b => match op with
    | .eql => some (.bool (a.toList == b.toList))
    | .neq => some (.bool (!(a.toList == b.toList)))
    | .lss => some (.bool (Op.bytesLess a.toList b.toList))
    | .leq => some (.bool (Op.bytesLess a.toList b.toList || a.toList == b.toList))
    | .gtr => some (.bool (!(Op.bytesLess a.toList b.toList || a.toList == b.toList)))
    | .geq => some (.bool (!(Op.bytesLess a.toList b.toList)))
    | _ => none
  | _, _ => none
def unV (op : UnOp) : Value → Option Value
  | .int k a => match op with
    | .neg => some (.int k (k.wrap (0 - a)))
    | .xor => some (.int k (k.wrap (BitVec.ofInt k.bits (if k.signed then -1 else k.max) ^^^ BitVec.ofInt k.bits a).toNat))
    | _ => none
  | .bool a => match op with
    | .not => some (.bool (!a))
    | _ => none
  | _ => none
def aggOf (i : TI) (l : List Value) : Option Value := match i.sh, l with
  | .agg _, l => some (.agg l.toArray)
  | .one _, [v] => some v
  | _, _ => none
/-- the cells from 'off' on, 'n' of them, as a value of the type -/
def partV (i : TI) (cs : List Value) (off : Nat) : Option Value := match i.sh with
  | .agg _ => some (.agg ((cs.drop off).take i.size).toArray)
  | .one _ => cs[off]?
  | .tup _ => none
def fieldV (T : Tab) (t : TypeId) (f : Nat) : Value → Option Value
  | .agg cs => match tk T t with
    | some ⟨.struct fs, .agg _, _, _, _, _⟩ => match fs[f]? with
      | some (off, ft, _) => match tk T ft with
        | some i => partV i cs.toList off
        | none => none
      | none => none
    | _ => none
  | _ => none
def putL : Nat → List Value → List Value → List Value
  | 0, [], l => l
  | 0, v :: vs, _ :: l => v :: putL 0 vs l
  | 0, _ :: _, [] => []
  | _ + 1, _, [] => []
  | n + 1, vs, x :: l => x :: putL n vs l
def fillL (fs : List (Nat × TypeId × Nat)) : List (Nat × Value) → List Value → Option (List Value)
  | [], l => some l
  | (i, v) :: r, l => match fs[i]? with
    | some (off, _, size) => bif Nat.beq v.cells.toList.length size && Nat.ble (off + size) l.length then fillL fs r (putL off v.cells.toList l) else none
    | none => none
/-- the cells of a literal of an array or a slice -/
def fillS (es : Nat) : List (Nat × Value) → List Value → Option (List Value)
  | [], l => some l
  | (i, v) :: r, l => bif Nat.beq v.cells.toList.length es && Nat.ble (i * es + es) l.length then fillS es r (putL (i * es) v.cells.toList l) else none
def buildV (T : Tab) (t : TypeId) (parts : List (Nat × Value)) : Option Value := match tk T t with
  | some ⟨.struct fs, .agg _, _, z, _, _⟩ => (fillL fs parts z.cells.toList).map fun l => .agg l.toArray
  | some ⟨.array _ _ es, .agg _, _, z, _, _⟩ => (fillS es parts z.cells.toList).map fun l => .agg l.toArray
  | _ => none
def minL (k : IntKind) : Int → List Value → Option Value
  | x, [] => some (.int k x)
  | x, .int _ y :: r => minL k (if y < x then y else x) r
  | _, _ => none
def maxL (k : IntKind) : Int → List Value → Option Value
  | x, [] => some (.int k x)
  | x, .int _ y :: r => maxL k (if y > x then y else x) r
  | _, _ => none
def partsV (env : Env) : List (Nat × Operand) → Option (List (Nat × Value))
  | [] => some []
  | p :: r => match opv env p.2, partsV env r with
    | some v, some vs => some ((p.1, v) :: vs)
    | _, _ => none
def builtinV (T : Tab) (b : Builtin) (ts : List TypeId) (vs : List Value) : Option Value := match b, ts, vs with
  | .len, [t], [.slice _ n _] => match tk T t with
    | some ⟨.slice _ _, .one _, _, _, _, _⟩ => some (.int .i64 (n : Int))
    | _ => none
  | .len, [t], [.string s] => match tk T t with
    | some ⟨.str, .one _, _, _, _, _⟩ => some (.int .i64 (s.size : Int))
    | _ => none
  | .cap, [t], [.slice _ _ n] => match tk T t with
    | some ⟨.slice _ _, .one _, _, _, _, _⟩ => some (.int .i64 (n : Int))
    | _ => none
  | .min, _, .int k x :: r => minL k x r
  | .max, _, .int k x :: r => maxL k x r
  | _, _, _ => none
def pureV (T : Tab) (env : Env) (o : Oper) : Option Value := match o.op with
  | .move x | .assign x => opv env x
  | .binOp op t x y _ => match opv env x, opv env y with
    | some (.agg xs), some (.agg ys) => match tk T t with
      | some ⟨_, .agg ks, _, _, _, true⟩ => bif fitB ks xs.toList && fitB ks ys.toList then
          match op with
          | .eql => some (.bool (eqL xs.toList ys.toList))
          | .neq => some (.bool (!eqL xs.toList ys.toList))
          | _ => none
        else none
      | _ => none
    | some a, some b => binV (dk T t) op a b
    | _, _ => none
  | .unOp op _ x => match opv env x with
    | some a => unV op a
    | none => none
  | .field t x f => match opv env x with
    | some a => fieldV T t f a
    | none => none
  | .extract x i => match opv env x with
    | some (.tuple vs) => vs.toList[i]?
    | _ => none
  | .build t parts => match partsV env parts.toList with
    | some ps => buildV T t ps
    | none => none
  | .convert s d x => match tk T s, tk T d, opv env x with
    | some ⟨_, .one _, _, _, _, _⟩, some ⟨.int k, .one _, _, _, _, _⟩, some (.int _ n) => some (.int k (k.wrap n))
    | some ⟨_, .one _, _, _, _, _⟩, some ⟨.str, .one _, _, _, _, _⟩, some (.string s) => some (.string s)
    | _, _, _ => none
  | .makeFunc fn first captured => match opvs env first.toList, opvs env captured.toList with
    | some fs, some cs => some (.func fn fs.toArray cs.toArray)
    | _, _ => none
  | .makeInterface t x => match tk T t, opv env x with
    | some ⟨.iface, _, _, _, _, _⟩, _ => none
    | some ⟨_, .tup _, _, _, _, _⟩, _ => none
    | some _, some v => some (.iface t v)
    | _, _ => none
  | .call ⟨.builtin b, args, ts⟩ => match opvs env args.toList with
    | some vs => builtinV T b ts.toList vs
    | none => none
  | _ => none
end Go.Vc
