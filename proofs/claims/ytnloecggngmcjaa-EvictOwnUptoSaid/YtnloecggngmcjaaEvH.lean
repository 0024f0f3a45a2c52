import Derived.Test.YtnloecggngmcjaaEvG
import Derived.Laws.MakeOwn
set_option maxRecDepth 20000
namespace Go.Proofs.Ytnloecggngmcjaa
open Go Go.Vc Go.RowKit Go.Vc.Ring
def okNew (k n kp : Int) : Bool := decide (1 ≤ k ∧ k ≤ 3 ∧ 1 ≤ n ∧ n ≤ 256 ∧ 0 ≤ kp ∧ kp ≤ 255)
theorem made_rep (n : Nat) (x : Value) : madeCells #[x] n = (List.replicate n x).toArray := by
  apply Array.ext
  · simp [madeCells]
  · intro i h1 h2
    simp [madeCells]
    rw [show i % 1 = 0 by omega]; rfl
structure Born (w : World) (v : Vi) (w' : World) (k n kp : Int) : Prop where
  inv : Inv v w'
  kind : v.kind = k
  keep : v.keep = kp
  num : v.n = n.toNat
  line : v.line = []
  chg : Chg none_ w w'
  own : ∀ x, v.own x → w.heap.size ≤ x
theorem new16 (w : World) (k n kp : Int) : Calls Try.prog 16 #[.int .i64 k, .int .i64 n, .int .i64 kp] w (Ret fun u w' => (okNew k n kp = false ∧ u = .tuple #[.pointer none, .int .i64 160] ∧ w = w') ∨
    (okNew k n kp = true ∧ ∃ v, Born w v w' k n kp ∧ u = .tuple #[.pointer (some (ad v.B)), .int .i64 0])) := by
  refine f16.calls _ _ _ ?_
  unfold f16.wp
  have no : ∀ {p : Prop}, ¬ (1 ≤ k ∧ k ≤ 3 ∧ 1 ≤ n ∧ n ≤ 256 ∧ 0 ≤ kp ∧ kp ≤ 255) → ((okNew k n kp = false ∧ Value.tuple #[.pointer none, .int .i64 160] = Value.tuple #[.pointer none, .int .i64 160] ∧ w = w) ∨ p) := fun h => .inl ⟨by simpa [okNew] using h, rfl, rfl⟩
  refine bc (fun h => no (by simp at h; omega)) (fun h1 => bc (fun h => no (by simp at h; omega)) (fun h2 => bc (fun h => no (by simp at h; omega)) (fun h3 => bc (fun h => no (by simp at h; omega)) (fun h4 => bc (fun h => no (by simp at h; omega)) (fun h5 => bc (fun h => no (by simp at h; omega)) (fun h6 => ?_))))))
  simp at h1 h2 h3 h4 h5 h6
  intro w1 e1
  refine ⟨by omega, Int.le_refl _, by omega, by omega, fun w2 e2 w3 e3 => ?_⟩
  have s1 := new_size e1; have s2 := new_size e2; have s3 := new_size e3
  have R3 := ((new_blk e1).new' e2).new' e3
  have A3 := (new_blk e2).new' e3
  have B3 := new_blk e3
  have c3 := (((Chg.refl none_ w).new' e1).new' e2).new' e3
  rw [Nat.mul_one, made_rep] at A3
  clear e1 e2 e3 no
  generalize hr : w.heap.size = r at *
  generalize hA : w1.heap.size = A at *
  generalize hB : w2.heap.size = B at *
  have R4 := R3.drew; have A4 := A3.drew; have B4 := B3.drew; have c4 := c3.drew
  generalize w3.drew = w4 at *
  refine ⟨_, (B4.cell0 2).trans rfl, _, (B4.cell0 2).trans rfl, _, (B4.cell0 2).trans rfl, _, (B4.cell0 2).trans rfl, onPtr_mk ⟨R4.canStore (by simp), fun w5 e5 => onPtr_mk ⟨?_, fun w6 e6 => ?_⟩⟩⟩
  · exact (R4.sets' e5).canStore0 (by simp [putC])
  have R5 := R4.sets' e5
  have e6' := e6
  rw [add_mk, Nat.zero_add] at e6'
  have R6 := R5.sets' e6'
  have A6 := (A4.far' e5 (show A ≠ r by omega)).far' e6 (by rw [add_block]; show A ≠ r; omega)
  have B6 := (B4.far' e5 (show B ≠ r by omega)).far' e6 (by rw [add_block]; show B ≠ r; omega)
  have c6 := (c4.sets' e5 (.inr (show w.heap.size ≤ r by omega))).sets' e6 (.inr (by rw [add_block]; show w.heap.size ≤ r; omega))
  refine .inr ⟨by simp [okNew]; omega, ⟨B, A, r, n.toNat, k, kp, List.replicate n.toNat none, [], ⟨fun _ => r, fun _ => r, fun _ => -1, fun _ => false⟩⟩, ⟨⟨B6, ?_, ?_, by simp, ⟨by simp, rfl, rfl, trivial⟩, ?_, ?_, ?_⟩, rfl, rfl, rfl, rfl, c6, ?_⟩, rfl⟩
  · simpa [po] using A6
  · intro y hy
    have hy' : y = r := by simpa using hy
    subst hy'
    simpa [putC, G.nd] using R6
  · intro b hb; cases hb
  · intro i b hb
    simp [List.getElem?_replicate] at hb
  · show n.toNat ≤ 256; omega
  · rintro x (hx | hx | hx)
    · have : x = B := hx
      omega
    · have : x = A := hx
      omega
    · have : x = r := by simpa using hx
      omega
theorem refNew26 (w : World) (k n kp : Int) : Calls Try.prog 26 #[.int .i64 k, .int .i64 n, .int .i64 kp] w (Ret fun u w' => (okNew k n kp = false ∧ u = .tuple #[.pointer none, .int .i64 160] ∧ w = w') ∨
    (okNew k n kp = true ∧ u = .tuple #[.pointer (some (ad w.heap.size)), .int .i64 0] ∧ Blk w' w.heap.size 64 #[.int .i64 k, .int .i64 n, .int .i64 kp, .slice none 0 0, .slice none 0 0] ∧ Chg none_ w w')) := by
  refine f26.calls _ _ _ ?_
  unfold f26.wp
  have no : ∀ {p : Prop}, ¬ (1 ≤ k ∧ k ≤ 3 ∧ 1 ≤ n ∧ n ≤ 256 ∧ 0 ≤ kp ∧ kp ≤ 255) → ((okNew k n kp = false ∧ Value.tuple #[.pointer none, .int .i64 160] = Value.tuple #[.pointer none, .int .i64 160] ∧ w = w) ∨ p) := fun h => .inl ⟨by simpa [okNew] using h, rfl, rfl⟩
  refine bc (fun h => no (by simp at h; omega)) (fun h1 => bc (fun h => no (by simp at h; omega)) (fun h2 => bc (fun h => no (by simp at h; omega)) (fun h3 => bc (fun h => no (by simp at h; omega)) (fun h4 => bc (fun h => no (by simp at h; omega)) (fun h5 => bc (fun h => no (by simp at h; omega)) (fun h6 => ?_))))))
  simp at h1 h2 h3 h4 h5 h6
  intro w1 e1
  exact .inr ⟨by simp [okNew]; omega, rfl, new_blk e1, (Chg.refl none_ w).new' e1⟩
theorem awake17 (w : World) : Calls Try.prog 17 #[] w (Ret fun u w' => u = .bool true ∧ Chg none_ w w') := by
  refine f17.calls ?_
  unfold f17.wp
  refine Calls.use (new16 w 3 4 0) ?_
  rintro _ w1 (⟨h, _⟩ | ⟨_, v, b, rfl⟩)
  · simp [okNew] at h
  refine ⟨_, _, rfl, bcF (by simp) ⟨ptrOk_none _ _, bcF (by simp) ?_⟩⟩
  have hn := b.num; have hk := b.kind; have hl := b.line; have hc := b.chg; have ho := b.own
  have hB : ∀ {v' : Vi}, v'.B = v.B → ad v.B = ad v'.B := fun e => by rw [e]
  refine Calls.use (seal11 b.inv 0) ?_
  rintro _ w2 ⟨rfl, v2, s2, l2⟩
  refine ⟨_, rfl, ?_⟩
  rw [hB s2.B]
  refine Calls.use (seal11 s2.inv 1) ?_
  rintro _ w3 ⟨rfl, v3, s3, l3⟩
  refine ⟨_, rfl, ?_⟩
  rw [← hB s2.B, hB (s3.B.trans s2.B)]
  refine Calls.use (seal11 s3.inv 2) ?_
  rintro _ w4 ⟨rfl, v4, s4, l4⟩
  refine ⟨_, rfl, ?_⟩
  have s24 := (s2.trans s3).trans s4
  rw [← hB (s3.B.trans s2.B), hB s24.B]
  refine Calls.use (hit12 s4.inv 0) ?_
  rintro _ w5 ⟨rfl, v5, s5, l5⟩
  refine ⟨_, rfl, ?_⟩
  have s25 := s24.trans s5
  rw [← hB s24.B, hB s25.B]
  refine Calls.use (hit12 s5.inv 1) ?_
  rintro _ w6 ⟨rfl, v6, s6, l6⟩
  refine ⟨_, rfl, ?_⟩
  have s26 := s25.trans s6
  rw [← hB s25.B, hB s26.B]
  have e2 : v2.line = [(0, false)] := by rw [l2, hl, hn]; decide
  have e3 : v3.line = [(0, false), (1, false)] := by rw [l3, e2, s2.n, hn]; decide
  have e4 : v4.line = [(0, false), (1, false), (2, false)] := by rw [l4, e3, s3.n, s2.n, hn]; decide
  have e5 : v5.line = [(0, true), (1, false), (2, false)] := by rw [l5, e4, s24.kind, hk]; decide
  have e6 : v6.line = [(0, true), (1, true), (2, false)] := by rw [l6, e5, s25.kind, hk]; decide
  refine Calls.use (next14 s6.inv) ?_
  rintro _ w7 ⟨rfl, v7, s7, l7⟩
  have s27 := s26.trans s7
  have e7 : v7.line = [(2, false), (0, false), (1, false)] := by rw [l7, e6]; decide
  rw [e6]
  refine ⟨_, _, rfl, bcT (by decide) (bcT (by decide) ?_)⟩
  rw [← hB s26.B, hB s27.B]
  refine Calls.use (line15 s7.inv) ?_
  rintro _ w8 ⟨⟨q, c, rfl⟩, ho8, c8⟩
  refine ⟨_, _, _, rfl, fun w9 e9 => ?_⟩
  have i9 := (Ints.own ho8).chg ((Chg.refl none_ w8).new' e9)
  have f9 := s7.inv.few; have g9 := s7.inv.small
  have j9 : Ints w9 (some (ad w8.heap.size)) 3 [2, 0, 1] := ⟨rfl, fun i x hx => ⟨_, rfl, by
    rw [Nat.mul_one, (new_blk e9).cell0]
    match i with
    | 0 => simp at hx; subst hx; rfl
    | 1 => simp at hx; subst hx; rfl
    | 2 => simp at hx; subst hx; rfl
    | i + 3 => simp at hx⟩⟩
  refine Calls.use (same18 i9 j9 (by omega)) ?_
  rintro _ w10 ⟨rfl, c10⟩
  refine ⟨_, rfl, by simp [Vi.regs, e7], ?_⟩
  have c27 : Chg none_ w w7 := hc.trans' s27.chg (fun k hk => .inr (ho k hk))
  exact ((c27.trans c8).new' e9).trans c10
end Go.Proofs.Ytnloecggngmcjaa
