import Derived.Test.YtnloecggngmcjaaW
import Derived.Test.YtnloecggngmcjaaEvA
set_option maxRecDepth 20000
namespace Go.Proofs.Ytnloecggngmcjaa
open Go Go.Vc Go.RowKit Go.Vc.Ring
abbrev vicA (kind keep : Int) (r A n : Nat) : Array Value := #[.int .i64 kind, .int .i64 keep, .pointer (some (ad r)), .slice (some (ad A)) n n]
theorem last29 {w : World} {S : Nat → Prop} {g : G} {B r x A n : Nat} {kind keep : Int} {a b : Value} (hB : Blk w B 53 (vicA kind keep r A n)) (hn : Nodes 60 w S g) (hr : S r) (hx : Blk w x 60 #[a, b, .int .i64 (g.rg x), .bool (g.mr x)]) (hl : S (g.pv r)) (hxr : ¬ S x) :
    Calls Try.prog 29 #[.pointer (some (ad B)), .pointer (some (ad x))] w (Ret fun v w' => v = .tuple #[] ∧ Nodes 60 w' (fun y => S y ∨ y = x) (g.last r x) ∧ Chg (fun y => S y ∨ y = x) w w') := by
  have nB : ∀ y, S y → B ≠ y := fun y hy e => by
    subst e; have := (hB.type (hn _ hy)).1; simp at this
  have nx : B ≠ x := fun e => by
    subst e; have := (hB.type hx).1; simp at this
  have rx : r ≠ x := fun e => hxr (e ▸ hr)
  refine f29.calls _ _ ?_
  unfold f29.wp
  have hB' := hB.drew; have hn' := hn.drew; have hx' := hx.drew
  have c0 := (Chg.refl (fun y => S y ∨ y = x) w).drew
  generalize w.drew = w0 at *
  refine ⟨fun q => q.block ≠ x, onPtr_mk ⟨_, by show (Addr.add _ _).block ≠ x; rw [add_block]; exact nx, (hB'.cell0 2).trans rfl, onPtr_mk ⟨_, rx, hn'.pv hr, onPtr_mk ⟨_, by show (Addr.add _ _).block ≠ x; rw [add_block]; exact nx, (hB'.cell0 2).trans rfl, onPtr_mk ⟨hx'.canStore (by simp), fun w1 e1 => ?_⟩⟩⟩⟩⟩
  have n1 : Nodes 60 w1 S g := fun y hy => (hn' y hy).far' e1 (fun (e : y = x) => hxr (e ▸ hy))
  have x1 := hx'.sets' e1
  have c1 := Chg.node0 c0 e1 (.inl (.inr rfl))
  have B1 := hB'.far' e1 nx
  refine ⟨fun q hq => by rw [e1]; exact World.cell?_of_block (setCells_far _ _ _ _ _ hq), onPtr_mk ⟨x1.canStore0 (by simp [putC]), fun w2 e2 => ?_⟩⟩
  have e2' := e2
  rw [add_mk, Nat.zero_add] at e2'
  have x2 := x1.sets' e2'
  clear e2'
  have n2 : Nodes 60 w2 (fun y => S y ∨ y = x) { g with pv := upd g.pv x (g.pv r), nx := upd g.nx x r } := fun y hy => by
    by_cases e : y = x
    · subst e
      simpa [putC, G.nd, Ring.upd] using x2
    · have := (n1 y (hy.resolve_right e)).far' e2 (by rw [add_block]; exact e)
      simpa [G.nd, Ring.upd, e] using this
  have c2 := Chg.node c1 e2 (.inl (.inr rfl))
  have B2 := B1.far' e2 (by rw [add_block]; exact nx)
  clear e1 e2 x1 x2
  have pr : upd g.pv x (g.pv r) r = g.pv r := upd_ne _ _ rx
  refine onPtr_mk ⟨_, (B2.cell0 2).trans rfl, onPtr_mk ⟨_, n2.pv (.inl hr), ?_⟩⟩
  simp only [pr]
  refine onPtr_mk ⟨n2.st (.inl hl) (by decide), fun w3 e3 => ?_⟩
  have n3 := n2.setNx e3
  have c3 := Chg.node c2 e3 (.inl (.inl hl))
  have B3 := B2.far' e3 (by rw [add_block]; exact nB _ hl)
  refine onPtr_mk ⟨_, (B3.cell0 2).trans rfl, onPtr_mk ⟨n3.st0 (.inl hr), fun w4 e4 => ?_⟩⟩
  exact ⟨trivial, n3.setPv e4, Chg.node0 c3 e4 (.inl (.inl hr))⟩
theorem out30 {w : World} {S : Nat → Prop} {g : G} {x : Nat} (hn : Nodes 60 w S g) (hx : S x) (hp : S (g.pv x)) (hq : S (g.nx x)) :
    Calls Try.prog 30 #[.pointer (some (ad x))] w (Ret fun v w' => v = .tuple #[] ∧ Nodes 60 w' S (g.out x) ∧ Chg S w w') := by
  refine f30.calls _ ?_
  unfold f30.wp
  have hn' := hn.drew
  have c0 := (Chg.refl S w).drew
  generalize w.drew = w0 at *
  refine onPtr_mk ⟨_, hn'.pv hx, onPtr_mk ⟨_, hn'.nx hx, onPtr_mk ⟨_, hn'.nx hx, onPtr_mk ⟨_, hn'.pv hx, onPtr_mk ⟨hn'.st hp (by decide), fun w1 e1 => ?_⟩⟩⟩⟩⟩
  have n1 := hn'.setNx e1
  have c1 := Chg.node c0 e1 (.inl hp)
  refine onPtr_mk ⟨n1.st0 hq, fun w2 e2 => ?_⟩
  exact ⟨rfl, n1.setPv e2, Chg.node0 c1 e2 (.inl hq)⟩
end Go.Proofs.Ytnloecggngmcjaa
