import Derived.Test.YtnloecggngmcjaaEvH
set_option maxRecDepth 20000
namespace Go.Proofs.Ytnloecggngmcjaa
open Go Go.Vc Go.RowKit Go.Vc.Ring
/-- a slice of pairs of ints that came in -/
def Ops (w : World) (q : Option Addr) (l : Nat) : Prop := ∀ i : Nat, i < l → ∃ (a : Addr) (x y : Int), q = some a ∧ reads w (a.add (i * 2)) [iv x, iv y]
theorem reads_chg {w w' : World} {p : Addr} {vs : List Value} (h : reads w p vs) (c : Chg none_ w w') : reads w' p vs := fun j v hj => Chg.cellS c (h j v hj) (fun x => x)
theorem Ops.chg {w w' : World} {q : Option Addr} {l : Nat} (h : Ops w q l) (c : Chg none_ w w') : Ops w' q l := fun i hi => by
  obtain ⟨a, x, y, e, r⟩ := h i hi
  exact ⟨a, x, y, e, reads_chg r c⟩
structure Began (w : World) (v : Vi) (rb : Nat) (w' : World) (k n kp : Int) : Prop where
  inv : Inv v w'
  kind : v.kind = k
  keep : v.keep = kp
  num : v.n = n.toNat
  line : v.line = []
  chg : Chg none_ w w'
  own : ∀ x, v.own x → w.heap.size ≤ x
  ref : Blk w' rb 64 #[.int .i64 k, .int .i64 n, .int .i64 kp, .slice none 0 0, .slice none 0 0]
  rown : w.heap.size ≤ rb
theorem begin10 (w : World) (k n kp : Int) (q : Option Addr) (l c : Nat) : Calls Try.prog 10 #[.agg #[.int .i64 k, .int .i64 n, .int .i64 kp, .slice q l c]] w (Ret fun u w' => (okNew k n kp = false ∧ u = .tuple #[.pointer none, .pointer none, .bool true] ∧ Chg none_ w w') ∨
    (okNew k n kp = true ∧ ∃ v rb, Began w v rb w' k n kp ∧ u = .tuple #[.pointer (some (ad v.B)), .pointer (some (ad rb)), .bool true])) := by
  refine f10.calls _ _ _ _ _ _ ?_
  unfold f10.wp
  intro w1 e1
  have X1 := new_blk e1
  have c1 := (Chg.refl none_ w).new' e1
  refine ⟨_, (X1.cell 0).trans rfl, _, (X1.cell0 1).trans rfl, _, (X1.cell0 2).trans rfl, ?_⟩
  clear e1
  refine Calls.use (new16 w1 k n kp) ?_
  rintro _ w2 (⟨hk, rfl, rfl⟩ | ⟨hk, v, b, rfl⟩)
  · refine ⟨_, _, rfl, _, (X1.cell 0).trans rfl, _, (X1.cell0 1).trans rfl, _, (X1.cell0 2).trans rfl, ?_⟩
    refine Calls.use (refNew26 w1 k n kp) ?_
    rintro _ w3 (⟨_, rfl, rfl⟩ | ⟨hk', _⟩)
    · refine ⟨_, _, rfl, Calls.use (awake17 _) ?_⟩
      rintro _ w4 ⟨rfl, c4⟩
      exact ⟨_, rfl, bcT rfl (bcT (by simp) ⟨ptrOk_none _ _, ptrOk_none _ _, .inl ⟨hk, by simp, c1.trans c4⟩⟩)⟩
    · rw [hk] at hk'; cases hk'
  · have X2 := b.chg.blk X1 (fun x => x)
    refine ⟨_, _, rfl, _, (X2.cell 0).trans rfl, _, (X2.cell0 1).trans rfl, _, (X2.cell0 2).trans rfl, ?_⟩
    refine Calls.use (refNew26 w2 k n kp) ?_
    rintro _ w3 (⟨hk', _⟩ | ⟨_, rfl, R3, c3⟩)
    · rw [hk] at hk'; cases hk'
    · refine ⟨_, _, rfl, Calls.use (awake17 _) ?_⟩
      rintro _ w4 ⟨rfl, c4⟩
      refine ⟨_, rfl, bcT rfl (bcT (by simp) ⟨ptrOk_none _ _, ptrOk_none _ _, .inr ⟨hk, v, w2.heap.size, ⟨b.inv.chg (c3.trans c4) (fun _ _ hf => hf), b.kind, b.keep, b.num, b.line, ((c1.trans b.chg).trans c3).trans c4, fun x hx => Nat.le_trans c1.size (b.own x hx), c4.blk R3 (fun x => x), Nat.le_trans c1.size b.chg.size⟩, by simp⟩⟩)⟩
/-- victims that this call has made -/
structure Good (W : World) (B : Nat) (v : Vi) (w : World) : Prop where
  inv : Inv v w
  B : v.B = B
  own : ∀ x, v.own x → W.heap.size ≤ x
  chg : Chg none_ W w
theorem Good.step {W : World} {B : Nat} {v v' : Vi} {w w' : World} (h : Good W B v w) (s : Step v w v' w') : Good W B v' w' :=
  ⟨s.inv, s.B.trans h.B, fun x hx => by
    rcases s.own x hx with h1 | h1
    · exact h.own x h1
    · exact Nat.le_trans h.chg.size h1, h.chg.trans' s.chg (fun x hx => .inr (h.own x hx))⟩
theorem Good.next {W : World} {B : Nat} {v : Vi} {w w' : World} (h : Good W B v w) (c : Chg none_ w w') : Good W B v w' :=
  ⟨h.inv.chg c (fun _ _ hf => hf), h.B, h.own, h.chg.trans c⟩
theorem Good.put {W : World} {B : Nat} {v : Vi} {w w' : World} (h : Good W B v w) {b o : Nat} {t : TypeId} {cs : Array Value} {i : Nat} {vs : List Value} (_ : Blk w b t cs) (hw : W.heap.size ≤ b) (ho : ¬ v.own b) (e : w' = setCells (⟨b, o, none⟩ : Addr) i vs w) : Good W B v w' := by
  have c : Chg (fun k => k = b) w w' := (Chg.refl _ w).sets' e (.inl rfl)
  exact ⟨h.inv.chg c (fun k hk (hf : k = b) => ho (hf ▸ hk)), h.B, h.own, h.chg.trans' c (fun k (hk : k = b) => .inr (hk ▸ hw))⟩
section
variable {W : World} {B : Nat} {v : Vi} {w : World}
theorem Good.putIn (G : Good W B v w) (z : Int) : Calls Try.prog 11 #[.pointer (some (ad B)), .int .i64 z] w (Ret fun u w' => u = .int .i64 (sealL v.n v.line z).1 ∧ ∃ v', Good W B v' w' ∧ Step v w v' w' ∧ v'.line = (sealL v.n v.line z).2) := by
  have e := G.B
  subst e
  exact Calls.mono (seal11 G.inv z) fun _ _ ⟨u, h1, h2, v', s, h3⟩ => ⟨u, h1, h2, v', G.step s, s, h3⟩
theorem Good.hit (G : Good W B v w) (z : Int) : Calls Try.prog 12 #[.pointer (some (ad B)), .int .i64 z] w (Ret fun u w' => u = .bool (hitL v.kind v.line z).1 ∧ ∃ v', Good W B v' w' ∧ Step v w v' w' ∧ v'.line = (hitL v.kind v.line z).2) := by
  have e := G.B
  subst e
  exact Calls.mono (hit12 G.inv z) fun _ _ ⟨u, h1, h2, v', s, h3⟩ => ⟨u, h1, h2, v', G.step s, s, h3⟩
theorem Good.free (G : Good W B v w) (z : Int) : Calls Try.prog 13 #[.pointer (some (ad B)), .int .i64 z] w (Ret fun u w' => u = .int .i64 (freeL v.n v.line z).1 ∧ ∃ v', Good W B v' w' ∧ Step v w v' w' ∧ v'.line = (freeL v.n v.line z).2) := by
  have e := G.B
  subst e
  exact Calls.mono (free13 G.inv z) fun _ _ ⟨u, h1, h2, v', s, h3⟩ => ⟨u, h1, h2, v', G.step s, s, h3⟩
theorem Good.nxt (G : Good W B v w) : Calls Try.prog 14 #[.pointer (some (ad B))] w (Ret fun u w' => u = .tuple #[.int .i64 (nextL v.line).1, .bool (nextL v.line).2] ∧ ∃ v', Good W B v' w' ∧ Step v w v' w' ∧ v'.line = rotL v.line) := by
  have e := G.B
  subst e
  exact Calls.mono (next14 G.inv) fun _ _ ⟨u, h1, h2, v', s, h3⟩ => ⟨u, h1, h2, v', G.step s, s, h3⟩
theorem Good.ln (G : Good W B v w) : Calls Try.prog 15 #[.pointer (some (ad B))] w (Ret fun u w' => (∃ q c, u = .slice q v.bs.length c) ∧ w'.ownsRow w.heap.size 3 1 u v.bs.length (v.regs.map iv) ∧ Chg none_ w w' ∧ Good W B v w') := by
  have e := G.B
  subst e
  exact Calls.mono (line15 G.inv) fun _ _ ⟨u, h1, h2, h3, h4⟩ => ⟨u, h1, h2, h3, h4, G.next h4⟩
end
theorem rot_rot (l : Ln) : rotL (rotL l) = rotL l := by
  have key : ∀ m : Ln, (∀ e t, m = e :: t → e.2 = false) → rotL m = m := fun m hm => by
    cases m with
    | nil => rfl
    | cons e t => simp [rotL, hm e t rfl]
  apply key
  intro e t he
  unfold rotL at he
  cases hd : l.dropWhile (·.2) with
  | nil =>
    rw [hd, List.nil_append] at he
    cases ht : l.takeWhile (·.2) with
    | nil => rw [ht] at he; cases he
    | cons a s => rw [ht] at he; simp at he; rw [← he.1]
  | cons a s =>
    rw [hd] at he
    simp at he
    have := List.head?_dropWhile_not (p := (·.2)) (l := l)
    rw [hd] at this
    simp at this
    rw [← he.1]; exact this
theorem next_rot (l : Ln) : nextL (rotL l) = nextL l := by simp [nextL, rot_rot]
theorem stays3 (w : World) (k n kp : Int) (q : Option Addr) (l c : Nat) (ho : Ops w q l) (hl : l ≤ 9223372036854775807) : Calls Try.prog 3 #[.agg #[.int .i64 k, .int .i64 n, .int .i64 kp, .slice q l c]] w (Ret fun u w' => u = .bool true ∧ Chg none_ w w') := by
  refine f3.calls _ _ _ _ _ _ ?_
  unfold f3.wp
  intro w1 e1
  have X1 := new_blk e1
  have c1 := (Chg.refl none_ w).new' e1
  refine ⟨_, _, _, _, _, _, X1.reads0, Calls.use (begin10 w1 k n kp q l c) ?_⟩
  clear e1
  rintro _ w2 (⟨_, rfl, c2⟩ | ⟨_, v0, rb, b, rfl⟩)
  · exact ⟨_, _, _, rfl, bcF rfl ⟨ptrOk_none _ _, bcT (by simp) ⟨rfl, c1.trans c2⟩⟩⟩
  refine ⟨_, _, _, rfl, bcF rfl ⟨ptrOk_none _ _, bcF (by simp) ⟨_, _, _, ((b.chg.blk X1 (fun x => x)).cell0 3).trans rfl, ?_⟩⟩⟩
  have G0 : Good w v0.B v0 w2 := ⟨b.inv, rfl, fun x hx => Nat.le_trans c1.size (b.own x hx), c1.trans b.chg⟩
  generalize v0.B = B at *
  clear b X1 c1
  refine ⟨fun x w3 => ∃ (i : Nat) (v : Vi), x = i ∧ i ≤ l ∧ Good w B v w3, fun x _ => l - x.toNat, ⟨0, v0, rfl, Nat.zero_le _, G0⟩, ?_⟩
  clear G0
  rintro x w3 ⟨i, v, rfl, hi, G⟩
  refine bc (fun hlt => ?_) (fun _ => ⟨rfl, G.chg⟩)
  have hi' : i < l := by simpa using hlt
  obtain ⟨a, x, y, rfl, hr⟩ := ho.chg G.chg i hi'
  simp only [Int.toNat_natCast]
  refine onPtr_mk ⟨by omega, by omega, _, _, hr, fun w4 e4 => ?_⟩
  have X4 := new_blk e4
  have G4 := G.next ((Chg.refl none_ w3).new' e4)
  refine ⟨X4.canStore (by simp), fun w5 e5 => ?_⟩
  have X5 := X4.over e5 rfl
  have G5 := G4.put X4 G.chg.size (fun hc => by have := G.inv.lt hc; omega) e5
  clear e4 e5 X4 G4
  refine ⟨fun w6 => ∃ v', Good w B v' w6, ?_, _, (X5.cell 0).trans rfl, ?_⟩
  · clear X5 G5 G hr
    rintro w6 ⟨v, G⟩
    refine Calls.use G.nxt ?_
    rintro _ w7 ⟨rfl, v7, G7, _, l7⟩
    refine ⟨_, _, rfl, Calls.use G7.nxt ?_⟩
    rintro _ w8 ⟨rfl, v8, G8, _, l8⟩
    refine ⟨_, _, rfl, Calls.use G8.ln ?_⟩
    rintro _ w9 ⟨⟨q9, c9, rfl⟩, ho9, hc9, G9⟩
    have hlen : v8.bs.length = v8.line.length := by simp [Vi.line]
    rw [l7, next_rot]
    refine ⟨_, _, _, rfl, bcF (by simp) (bcF (by simp) ?_)⟩
    have e8 : v8.line = rotL v.line := by rw [l8, l7, rot_rot]
    rw [wrap1 (by omega) (by omega)]
    have fin : (∃ (j : Nat) (v : Vi), ((i : Int) + 1) = j ∧ j ≤ l ∧ Good w B v w9) ∧ l - ((i : Int) + 1).toNat < l - i := ⟨⟨i + 1, v8, by omega, hi', G9⟩, by omega⟩
    cases hrot : rotL v.line with
    | nil =>
      rw [hlen, e8, hrot]
      exact bcF (by simp [nextL, hrot]) (bcF (by simp [nextL, hrot]) fin)
    | cons e t =>
      refine bcF (by rw [hlen, e8, hrot]; simp [nextL, hrot]) (bcT (by simp [nextL, hrot]) ?_)
      obtain ⟨g, rfl, hcell⟩ := own_cell ho9 (i := 0) (x := iv e.1) (by simp [Vi.regs, e8, hrot])
      refine onPtr_mk ⟨by omega, by rw [hlen, e8, hrot]; simp, _, hcell, bcF (by simp [nextL, hrot]) fin⟩
  · refine bc (fun _ => ⟨_, (X5.cell0 1).trans rfl, Calls.use (G5.putIn y) ?_⟩) (fun _ => bc (fun _ => ⟨_, (X5.cell0 1).trans rfl, Calls.use (G5.hit y) ?_⟩) (fun _ => bc (fun _ => ⟨_, (X5.cell0 1).trans rfl, Calls.use (G5.free y) ?_⟩) (fun _ => ⟨v, G5⟩)))
    · rintro _ w7 ⟨rfl, v7, G7, _⟩
      exact ⟨_, rfl, v7, G7⟩
    · rintro _ w7 ⟨rfl, v7, G7, _⟩
      exact ⟨_, rfl, v7, G7⟩
    · rintro _ w7 ⟨rfl, v7, G7, _⟩
      exact ⟨_, rfl, v7, G7⟩
end Go.Proofs.Ytnloecggngmcjaa
