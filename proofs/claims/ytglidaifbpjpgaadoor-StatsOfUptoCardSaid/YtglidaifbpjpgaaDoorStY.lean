import Derived.Test.YtglidaifbpjpgaaDoorStX
import Derived.Maps.OwnSet
set_option maxRecDepth 20000
namespace Go.Proofs.YtglidaifbpjpgaaDoor
namespace Mo
open Go Go.Vc Go.RowKit Go.ChangeMaps Go.MapKept Go.WideShapes
/-! # the table of what counts a call -/
def dF (f : Nat) : DataW Unit := .lit (.int .i64 (f : Int))
abbrev vF (f : Nat) : Value := .func (.func f) #[] #[]
def RF : Value → Option (DataW Unit × List MemPlace)
  | .func (.func f) ⟨[]⟩ ⟨[]⟩ => some (dF f, [])
  | .nilFunc => some (.nil, [])
  | _ => none
theorem RF_mk (f : Nat) : RF (vF f) = some (dF f, []) := rfl
theorem RF_inv {v : Value} {f : Nat} {ps : List MemPlace} (h : RF v = some (dF f, ps)) : v = vF f := by
  unfold RF at h
  split at h
  · rename_i g
    simp only [Option.some.injEq, Prod.mk.injEq, dF] at h
    obtain ⟨h, _⟩ := h
    simp at h
    have : g = f := Int.ofNat.inj h
    subst this
    rfl
  · simp [dF] at h
  · cases h
theorem key3 {x : Int} (hx : (Lit.int .i64 x).wf = true) : keyOf Tryd.prog 3 (.int .i64 x) = some (.int .i64 x) := by
  simp [keyOf, mapKey, show Tryd.prog.underlying 3 = some (.int .i64) from rfl, hx]
structure MpF (w : World) (b n : Nat) (f : Int → Option Nat) : Prop where
  ex : ∃ D : DataW Unit, w.ownsMap Tryd.prog 3 RF b n D ∧ ∀ x : Int, (Lit.int .i64 x).wf = true → ∀ z, D.atKey (.int .i64 x) z = ((f x).map dF).getD z
theorem MpF.lt {w : World} {b n : Nat} {f : Int → Option Nat} (h : MpF w b n f) : b < w.heap.size := by obtain ⟨D, h, _⟩ := h.ex; exact h.lt
theorem MpF.chg {w w' : World} {b n : Nat} {f : Int → Option Nat} (h : MpF w b n f) {S : Nat → Prop} (c : Chg S w w') (hS : ¬ S b) : MpF w' b n f := by
  obtain ⟨D, h1, h2⟩ := h.ex
  have hb := c.block b h1.lt hS
  obtain ⟨es, clock, hh, r⟩ := h1
  exact ⟨D, ⟨es, clock, hb.trans hh, r⟩, h2⟩
theorem MpF.made (w : World) : MpF (w.alloc (.map #[] 0)) w.heap.size 0 (fun _ => none) :=
  ⟨_, World.ownsMap_made w Tryd.prog 3 RF, fun _ _ _ => rfl⟩
theorem MpF.look {w : World} {b n : Nat} {f : Int → Option Nat} (h : MpF w b n f) {x : Int} {g : Nat} (hx : (Lit.int .i64 x).wf = true) (hf : f x = some g) :
    (Instr.lookup 106 (.map (some b)) (.int .i64 x) false).run Tryd.prog w = .ok (vF g) w := by
  obtain ⟨D, h1, h2⟩ := h.ex
  obtain ⟨v, ps, hrun, hv⟩ := h1.lookup (t := 106) (e := 108) (z := .nilFunc) (zd := .nil) (zp := []) (Maps.int_keyed (q := .i64) rfl) rfl rfl rfl (key3 hx)
  rw [h2 x hx, hf] at hv
  rw [hrun, RF_inv hv]
theorem MpF.update {w : World} {b n : Nat} {f : Int → Option Nat} (h : MpF w b n f) (hn : n < maxLen) {x : Int} (hx : (Lit.int .i64 x).wf = true) (g : Nat) :
    ∃ w', (Instr.mapUpdate 106 (.map (some b)) (.int .i64 x) (vF g)).run Tryd.prog w = .ok () w' ∧ MpF w' b (n + 1) (fun y => if y = x then some g else f y) ∧ Chg (fun k => k = b) w w' := by
  obtain ⟨D, h1, h2⟩ := h.ex
  obtain ⟨w', hrun, ho, hg⟩ := h1.update (t := 106) (e := 108) (Maps.int_keyed (q := .i64) rfl) rfl hn (key3 hx) (RF_mk g)
  refine ⟨w', hrun, ⟨_, ho, fun y hy z => ?_⟩, ⟨hg.os, hg.tape, hg.output, hg.size, fun g hg' hne => hg.block g hg' (fun e => hne (by simpa using e))⟩⟩
  by_cases e : y = x
  · subst e; rw [Maps.atKey_put_same h1.isMap ((Maps.int_keyed (P := Tryd.prog) (q := .i64) rfl).key (key3 hy))]; simp
  · rw [Maps.atKey_put_other (by simpa using e), h2 y hy]; simp [e]
def five (x : Int) : Option Nat := if x = 5 then some 61 else if x = 4 then some 60 else if x = 3 then some 59 else if x = 2 then some 58 else if x = 1 then some 57 else none
theorem fields47 {w : World} : Calls Tryd.prog 47 #[] w (Ret fun v w' => v = .map (some w.heap.size) ∧ MpF w' w.heap.size 5 five ∧ Chg none_ w w') := by
  refine f47.calls ?_
  unfold f47.wp
  have up : ∀ {a b : World}, Chg none_ w a → Chg (fun k => k = w.heap.size) a b → Chg none_ w b := fun h h' => h.up h' fun k hk => by omega
  have k1 : Chg none_ w (w.alloc (.map #[] 0)) := (Chg.refl _ _).alloc _
  obtain ⟨w2, r2, M2, k2⟩ := (MpF.made w).update (by decide) (x := 1) (by decide) 57
  obtain ⟨w3, r3, M3, k3⟩ := M2.update (by decide) (x := 2) (by decide) 58
  obtain ⟨w4, r4, M4, k4⟩ := M3.update (by decide) (x := 3) (by decide) 59
  obtain ⟨w5, r5, M5, k5⟩ := M4.update (by decide) (x := 4) (by decide) 60
  obtain ⟨w6, r6, M6, k6⟩ := M5.update (by decide) (x := 5) (by decide) 61
  exact ⟨some w.heap.size, _, rfl, w2, r2, w3, r3, w4, r4, w5, r5, w6, r6, rfl, M6, up (up (up (up (up k1 k2) k3) k4) k5) k6⟩
/-! # fifteen counts -/
structure Cb (w : World) (b : Nat) (cs : List Int) : Prop where
  blk : Blk w b 79 (cs.map (Value.int .i64)).toArray
  len : cs.length = 15
def gt (cs : List Int) (i : Nat) : Int := cs.getD i 0
section
variable {w w' : World} {b : Nat} {cs : List Int}
theorem Cb.cell (h : Cb w b cs) {i : Nat} (hi : i < 15) : w.cell? ((⟨b, 0, none⟩ : Addr).add i) = some (.int .i64 (gt cs i)) := by
  rw [h.blk.cell0]
  have hl := h.len
  obtain ⟨x, hx⟩ := get_ex (l := cs) (i := i) (by omega)
  simp [gt, hx]
theorem Cb.cell' (h : Cb w b cs) : w.cell? (⟨b, 0, none⟩ : Addr) = some (.int .i64 (gt cs 0)) := by
  have := h.cell (i := 0) (by omega)
  rwa [add_zero'] at this
theorem Cb.can (h : Cb w b cs) {i : Nat} (hi : i < 15) : canStore w ((⟨b, 0, none⟩ : Addr).add i) 1 := h.blk.canStore0 (by simp [h.len]; omega)
theorem Cb.can' (h : Cb w b cs) : canStore w (⟨b, 0, none⟩ : Addr) 1 := by
  have := h.can (i := 0) (by omega)
  rwa [add_zero'] at this
theorem Cb.put (h : Cb w b cs) {i : Nat} {x : Int} (e : w' = setCells ((⟨b, 0, none⟩ : Addr).add i) 0 [.int .i64 x] w) : Cb w' b (cs.set i x) ∧ Chg (fun k => k = b) w w' := by
  obtain ⟨B, k⟩ := h.blk.put e
  refine ⟨⟨?_, by simp [h.len]⟩, k⟩
  rw [List.map_set]
  simpa using B
theorem Cb.put' (h : Cb w b cs) {x : Int} (e : w' = setCells (⟨b, 0, none⟩ : Addr) 0 [.int .i64 x] w) : Cb w' b (cs.set 0 x) ∧ Chg (fun k => k = b) w w' := h.put (i := 0) (by rw [add_zero']; exact e)
theorem Cb.chg (h : Cb w b cs) {S : Nat → Prop} (k : Chg S w w') (hS : ¬ S b) : Cb w' b cs := ⟨k.blk h.blk hS, h.len⟩
theorem Cb.drew (h : Cb w b cs) : Cb w.drew b cs := ⟨h.blk.drew, h.len⟩
/-- fifteen of them, one by one -/
theorem fifteen (h : cs.length = 15) : ∃ a0 a1 a2 a3 a4 a5 a6 a7 a8 a9 a10 a11 a12 a13 a14, cs = [a0, a1, a2, a3, a4, a5, a6, a7, a8, a9, a10, a11, a12, a13, a14] := by
  match cs, h with
  | [a0, a1, a2, a3, a4, a5, a6, a7, a8, a9, a10, a11, a12, a13, a14], _ => exact ⟨_, _, _, _, _, _, _, _, _, _, _, _, _, _, _, rfl⟩
end
def inc (i : Nat) (cs : List Int) : List Int := cs.set i (IntKind.wrap .i64 (gt cs i + 1))
def putS (m : Mv) (cs : List Int) : List Int := (inc 3 cs).set 10 (IntKind.wrap .i64 (gt (inc 3 cs) 10 + IntKind.wrap .i64 ((m.key.size : Int) + (m.val.size : Int))))
def getS (m : Mv) (cs : List Int) : List Int := if m.hit then inc 1 (inc 0 cs) else inc 2 (inc 0 cs)
theorem inc_len (i : Nat) (cs : List Int) : (inc i cs).length = cs.length := by simp [inc]
section
variable {w : World} {b : Nat} {cs : List Int} {m : Mv}
abbrev mvV' (m : Mv) : Value := .agg #[.int .i64 m.kind, .string m.key, .string m.val, .int .i64 m.err, .bool m.hit, .int .i64 m.life, .int .i64 m.frm, .int .i64 m.to]
theorem c57 (h : Cb w b cs) : Calls Tryd.prog 57 #[.pointer (some ⟨b, 0, none⟩), mvV' m] w (Ret fun v w' => v = .tuple #[] ∧ Cb w' b (getS m cs) ∧ Chg (fun k => k = b) w w') := by
  refine f57.calls _ _ _ _ _ _ _ _ _ ?_
  unfold f57.wp
  refine newBox fun w1 B1 k1 s1 => ?_
  have h1 := h.chg k1 (fun x => x)
  have hb := h.blk.lt
  refine onPtr_mk ⟨_, h1.cell', onPtr_mk ⟨h1.can', fun w2 e2 => ?_⟩⟩
  obtain ⟨h2, k2⟩ := h1.put' e2
  have B2 := k2.blk B1 (by omega)
  have k02 := (k1.of_none (fun k => k = b)).trans k2
  refine ⟨m.hit, (B2.cell0 4).trans rfl, bc (fun g => onPtr_mk ⟨_, h2.cell (i := 1) (by omega), onPtr_mk ⟨h2.can (by omega), fun w3 e3 => ?_⟩⟩) fun g => onPtr_mk ⟨_, h2.cell (i := 2) (by omega), onPtr_mk ⟨h2.can (by omega), fun w3 e3 => ?_⟩⟩⟩
  · obtain ⟨h3, k3⟩ := h2.put e3
    exact ⟨rfl, by unfold getS; rw [if_pos g]; exact h3, k02.trans k3⟩
  · obtain ⟨h3, k3⟩ := h2.put e3
    exact ⟨rfl, by unfold getS; rw [if_neg (by rw [g]; simp)]; exact h3, k02.trans k3⟩
theorem c58 (h : Cb w b cs) : Calls Tryd.prog 58 #[.pointer (some ⟨b, 0, none⟩), mvV' m] w (Ret fun v w' => v = .tuple #[] ∧ Cb w' b (putS m cs) ∧ Chg (fun k => k = b) w w') := by
  refine f58.calls _ _ _ _ _ _ _ _ _ ?_
  unfold f58.wp
  refine newBox fun w1 B1 k1 s1 => ?_
  have h1 := h.chg k1 (fun x => x)
  have hb := h.blk.lt
  refine onPtr_mk ⟨_, h1.cell (i := 3) (by omega), onPtr_mk ⟨h1.can (by omega), fun w2 e2 => ?_⟩⟩
  obtain ⟨h2, k2⟩ := h1.put e2
  have B2 := (k2.blk B1 (by omega)).drew
  have h2d := h2.drew
  have k02 := ((k1.of_none (fun k => k = b)).trans k2).drew
  refine onPtr_mk ⟨_, h2d.cell (i := 10) (by omega), m.key, (B2.cell0 1).trans rfl, m.val, (B2.cell0 2).trans rfl, onPtr_mk ⟨h2d.can (by omega), fun w3 e3 => ?_⟩⟩
  obtain ⟨h3, k3⟩ := h2d.put e3
  exact ⟨rfl, h3, k02.trans k3⟩
theorem c59 (h : Cb w b cs) : Calls Tryd.prog 59 #[.pointer (some ⟨b, 0, none⟩), mvV' m] w (Ret fun v w' => v = .tuple #[] ∧ Cb w' b (inc 5 cs) ∧ Chg (fun k => k = b) w w') := by
  refine f59.calls _ _ _ _ _ _ _ _ _ ?_
  unfold f59.wp
  refine newBox fun w1 B1 k1 s1 => ?_
  have h1 := h.chg k1 (fun x => x)
  refine onPtr_mk ⟨_, h1.cell (i := 5) (by omega), onPtr_mk ⟨h1.can (by omega), fun w2 e2 => ?_⟩⟩
  obtain ⟨h2, k2⟩ := h1.put e2
  exact ⟨rfl, h2, (k1.of_none _).trans k2⟩
theorem c60 (h : Cb w b cs) : Calls Tryd.prog 60 #[.pointer (some ⟨b, 0, none⟩), mvV' m] w (Ret fun v w' => v = .tuple #[] ∧ Cb w' b (inc 6 cs) ∧ Chg (fun k => k = b) w w') := by
  refine f60.calls _ _ _ _ _ _ _ _ _ ?_
  unfold f60.wp
  refine newBox fun w1 B1 k1 s1 => ?_
  have h1 := h.chg k1 (fun x => x)
  refine onPtr_mk ⟨_, h1.cell (i := 6) (by omega), onPtr_mk ⟨h1.can (by omega), fun w2 e2 => ?_⟩⟩
  obtain ⟨h2, k2⟩ := h1.put e2
  exact ⟨rfl, h2, (k1.of_none _).trans k2⟩
theorem c61 (h : Cb w b cs) : Calls Tryd.prog 61 #[.pointer (some ⟨b, 0, none⟩), mvV' m] w (Ret fun v w' => v = .tuple #[] ∧ Cb w' b (inc 7 cs) ∧ Chg (fun k => k = b) w w') := by
  refine f61.calls _ _ _ _ _ _ _ _ _ ?_
  unfold f61.wp
  refine newBox fun w1 B1 k1 s1 => ?_
  have h1 := h.chg k1 (fun x => x)
  refine onPtr_mk ⟨_, h1.cell (i := 7) (by omega), onPtr_mk ⟨h1.can (by omega), fun w2 e2 => ?_⟩⟩
  obtain ⟨h2, k2⟩ := h1.put e2
  exact ⟨rfl, h2, (k1.of_none _).trans k2⟩
theorem at51 (z : Int) : Calls Tryd.prog 51 #[.int .i64 z] w (Ret fun v w' => v = .int .i64 (if z < 0 then 0 else z) ∧ w' = w) := by
  refine f51.calls _ ?_
  unfold f51.wp
  refine bc (fun g => ⟨?_, rfl⟩) fun g => ⟨?_, rfl⟩
  · rw [if_pos (by simpa using g)]
  · rw [if_neg (by simpa using g)]
end
def wrt (a b : Int) : Int := if b > 0 ∧ a > IntKind.wrap .i64 (Int.tdiv 4611686018427387904 b) then 4611686018427387904 else IntKind.wrap .i64 (a * b)
theorem times50 {w : World} {a b : Int} (hb : 0 ≤ b) : Calls Tryd.prog 50 #[.int .i64 a, .int .i64 b] w (Ret fun v w' => v = .int .i64 (wrt a b) ∧ w' = w) := by
  refine f50.calls _ _ ?_
  unfold f50.wp wrt
  refine bc (fun g => ⟨by simpa using g, bc (fun g1 => ⟨?_, rfl⟩) fun g1 => ⟨?_, rfl⟩⟩) fun g => ⟨?_, rfl⟩
  · simp at g g1; rw [if_pos ⟨by omega, g1⟩]
  · simp at g g1; rw [if_neg (by omega)]
  · simp at g; rw [if_neg (by omega)]
end Mo
end Go.Proofs.YtglidaifbpjpgaaDoor
