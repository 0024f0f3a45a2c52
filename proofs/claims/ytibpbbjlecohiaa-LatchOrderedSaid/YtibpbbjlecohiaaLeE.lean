import Derived.Test.YtibpbbjlecohiaaLbP
import Derived.Test.YtibpbbjlecohiaaMv
set_option maxRecDepth 20000
namespace Go.Proofs.Ytibpbbjlecohiaa
namespace Full
open Go Go.Vc Go.RowKit
/-! # what acts of each kind do: a map of closures -/
theorem callV_of {P : Program} {F : List Nat} {g : Nat} {first cap : Array Value} {vs : List Value} {w : World} {K : Ending → World → Prop} (h : F.elem g = true) (c : Calls P g (first.toList ++ vs ++ cap.toList).toArray w K) :
    callV P F (.func (.func g) first cap) vs w K := by
  unfold callV
  simp only [h, cond_true]
  exact c
abbrev fnv (f : Nat) : Value := .func (.func f) #[] #[]
theorem take157 (f : Nat) (w : World) : Calls Try.prog 157 #[fnv f] w (Ret fun v w' => v = .func (.func 158) #[] #[.pointer (some (ad w.heap.size))] ∧ Blk w' w.heap.size 233 #[fnv f] ∧ Chg none_ w w') := by
  refine f157.calls _ ?_
  unfold f157.wp
  exact newBox fun w1 B1 k1 _ => ⟨rfl, B1, k1⟩
theorem give159 (f : Nat) (w : World) : Calls Try.prog 159 #[fnv f] w (Ret fun v w' => v = .func (.func 160) #[] #[.pointer (some (ad w.heap.size))] ∧ Blk w' w.heap.size 235 #[fnv f] ∧ Chg none_ w w') := by
  refine f159.calls _ ?_
  unfold f159.wp
  exact newBox fun w1 B1 k1 _ => ⟨rfl, B1, k1⟩
/-- the closure of a kind -/
def DoerOk (w : World) (lo : Nat) (k : Int) (v : Value) : Prop :=
  (∃ c f, lo ≤ c ∧ v = .func (.func 158) #[] #[.pointer (some (ad c))] ∧ Blk w c 233 #[fnv f] ∧ ((k = 1 ∧ f = 18) ∨ (k = 3 ∧ f = 47) ∨ (k = 5 ∧ f = 49))) ∨
  (∃ c f, lo ≤ c ∧ v = .func (.func 160) #[] #[.pointer (some (ad c))] ∧ Blk w c 235 #[fnv f] ∧ ((k = 2 ∧ f = 19) ∨ (k = 4 ∧ f = 48) ∨ (k = 6 ∧ f = 50) ∨ (k = 8 ∧ f = 52) ∨ (k = 9 ∧ f = 53))) ∨
  (k = 7 ∧ v = fnv 161) ∨ (k = 10 ∧ v = fnv 162) ∨ (k = 11 ∧ v = fnv 163)
theorem DoerOk.chg {w w' : World} {lo : Nat} {k : Int} {v : Value} (h : DoerOk w lo k v) {S : Nat → Prop} (c : Chg S w w') (hS : ∀ b, S b → ∀ t cs, ¬ Blk w b t cs) : DoerOk w' lo k v := by
  rcases h with ⟨b, f, h1, h2, h3, h4⟩ | ⟨b, f, h1, h2, h3, h4⟩ | h
  · exact .inl ⟨b, f, h1, h2, c.blk h3 fun hs => hS b hs _ _ h3, h4⟩
  · exact .inr (.inl ⟨b, f, h1, h2, c.blk h3 fun hs => hS b hs _ _ h3, h4⟩)
  · exact .inr (.inr h)
structure DS (w0 w : World) (m : Nat) (L : List KV) (ks : List Int) : Prop where
  map : Mv w m L
  chg : Chg none_ w0 w
  lo : w0.heap.size ≤ m
  all : ∀ k ∈ ks, ∃ u, lkL L k = some u ∧ DoerOk w w0.heap.size k u
theorem DS.go {w0 w w' : World} {m : Nat} {L : List KV} {ks : List Int} (h : DS w0 w m L ks) (k : Chg none_ w w') : DS w0 w' m L ks :=
  ⟨h.map.chgN k, h.chg.trans k, h.lo, fun x hx => by
    obtain ⟨u, h1, h2⟩ := h.all x hx
    exact ⟨u, h1, h2.chg k fun _ hs => hs.elim⟩⟩
theorem DS.put {w0 w : World} {m : Nat} {L : List KV} {ks : List Int} (h : DS w0 w m L ks) {k : Int} {v : Value} (hk : ok64 k) (hv : DoerOk w w0.heap.size k v) :
    ∃ w', (Instr.mapUpdate 231 (.map (some m)) (.int .i64 k) v).run Try.prog w = .ok () w' ∧ ∃ L', DS w0 w' m L' (k :: ks) := by
  obtain ⟨w', L', hr, M, c, hl, _⟩ := h.map.put key3 Try.underlying231 hk v
  have hS : ∀ b, b = m → ∀ t cs, ¬ Blk w b t cs := fun b hb t cs B => h.map.ne B hb.symm
  refine ⟨w', hr, L', M, h.chg.up c fun b hb => by rw [hb]; exact h.lo, h.lo, fun x hx => ?_⟩
  rw [hl]
  by_cases e : x = k
  · rw [if_pos e, e]; exact ⟨v, rfl, hv.chg c hS⟩
  · rw [if_neg e]
    rcases List.mem_cons.1 hx with hx | hx
    · exact absurd hx e
    · obtain ⟨u, h1, h2⟩ := h.all x hx
      exact ⟨u, h1, h2.chg c hS⟩
theorem doers156 (w : World) : Calls Try.prog 156 #[] w (Ret fun v w' => ∃ m L, v = .map (some m) ∧ Mv w' m L ∧ Chg none_ w w' ∧ w.heap.size ≤ m ∧ ∀ k, 1 ≤ k → k ≤ 11 → ∃ u, lkL L k = some u ∧ DoerOk w' w.heap.size k u) := by
  refine f156.calls ?_
  unfold f156.wp
  have hmk : (Instr.makeMap 231 none).run Try.prog w = .ok (.map (some w.heap.size)) (w.alloc (.map #[] 0)) := rfl
  have D : DS w (w.alloc (.map #[] 0)) w.heap.size [] [] := ⟨Mv.made w, (Chg.refl none_ w).alloc _, Nat.le_refl _, fun k hk => by cases hk⟩
  refine ⟨some w.heap.size, _, hmk, ?_⟩
  generalize w.alloc (.map #[] 0) = w1 at D
  have tk : ∀ {w1 : World} {L : List KV} {ks : List Int} {C : Value → World → Prop} (k : Int) (f : Nat), DS w w1 w.heap.size L ks → ok64 k → ((k = 1 ∧ f = 18) ∨ (k = 3 ∧ f = 47) ∨ (k = 5 ∧ f = 49)) → (∀ v w3 L', DS w w3 w.heap.size L' (k :: ks) → C v w3) →
      Calls Try.prog 157 #[fnv f] w1 fun (e1 : Ending) (w2 : World) => ∃ v1, e1 = .returned v1 ∧ ∃ w3 : World, (Instr.mapUpdate 231 (.map (some w.heap.size)) (.int .i64 k) v1).run Try.prog w2 = .ok () w3 ∧ C v1 w3 := fun k f D hk hf hC => by
    refine Calls.use (take157 f _) ?_
    rintro _ w2 ⟨rfl, B, k2⟩
    obtain ⟨w3, hr, L', D'⟩ := (D.go k2).put hk (.inl ⟨_, f, D.chg.size, rfl, B, hf⟩)
    exact ⟨_, rfl, w3, hr, hC _ _ _ D'⟩
  have gv : ∀ {w1 : World} {L : List KV} {ks : List Int} {C : Value → World → Prop} (k : Int) (f : Nat), DS w w1 w.heap.size L ks → ok64 k → ((k = 2 ∧ f = 19) ∨ (k = 4 ∧ f = 48) ∨ (k = 6 ∧ f = 50) ∨ (k = 8 ∧ f = 52) ∨ (k = 9 ∧ f = 53)) → (∀ v w3 L', DS w w3 w.heap.size L' (k :: ks) → C v w3) →
      Calls Try.prog 159 #[fnv f] w1 fun (e1 : Ending) (w2 : World) => ∃ v1, e1 = .returned v1 ∧ ∃ w3 : World, (Instr.mapUpdate 231 (.map (some w.heap.size)) (.int .i64 k) v1).run Try.prog w2 = .ok () w3 ∧ C v1 w3 := fun k f D hk hf hC => by
    refine Calls.use (give159 f _) ?_
    rintro _ w2 ⟨rfl, B, k2⟩
    obtain ⟨w3, hr, L', D'⟩ := (D.go k2).put hk (.inr (.inl ⟨_, f, D.chg.size, rfl, B, hf⟩))
    exact ⟨_, rfl, w3, hr, hC _ _ _ D'⟩
  have ok : ∀ k : Int, 1 ≤ k → k ≤ 11 → ok64 k := fun k h1 h2 => by
    show (Lit.int .i64 k).wf = true
    simp [Lit.wf, IntKind.min, IntKind.max, IntKind.signed, IntKind.bits]
    omega
  refine tk 1 18 D (ok _ (by decide) (by decide)) (.inl ⟨rfl, rfl⟩) fun _ _ _ D => tk 3 47 D (ok _ (by decide) (by decide)) (.inr (.inl ⟨rfl, rfl⟩)) fun _ _ _ D => tk 5 49 D (ok _ (by decide) (by decide)) (.inr (.inr ⟨rfl, rfl⟩)) fun _ _ _ D =>
    gv 2 19 D (ok _ (by decide) (by decide)) (.inl ⟨rfl, rfl⟩) fun _ _ _ D => gv 4 48 D (ok _ (by decide) (by decide)) (.inr (.inl ⟨rfl, rfl⟩)) fun _ _ _ D => gv 6 50 D (ok _ (by decide) (by decide)) (.inr (.inr (.inl ⟨rfl, rfl⟩))) fun _ _ _ D =>
    gv 8 52 D (ok _ (by decide) (by decide)) (.inr (.inr (.inr (.inl ⟨rfl, rfl⟩)))) fun _ _ _ D => gv 9 53 D (ok _ (by decide) (by decide)) (.inr (.inr (.inr (.inr ⟨rfl, rfl⟩)))) fun _ w17 _ D => ?_
  obtain ⟨w18, h18, L18, D18⟩ := D.put (k := 7) (v := fnv 161) (ok _ (by decide) (by decide)) (.inr (.inr (.inl ⟨rfl, rfl⟩)))
  obtain ⟨w19, h19, L19, D19⟩ := D18.put (k := 10) (v := fnv 162) (ok _ (by decide) (by decide)) (.inr (.inr (.inr (.inl ⟨rfl, rfl⟩))))
  obtain ⟨w20, h20, L20, D20⟩ := D19.put (k := 11) (v := fnv 163) (ok _ (by decide) (by decide)) (.inr (.inr (.inr (.inr ⟨rfl, rfl⟩))))
  refine ⟨w18, h18, w19, h19, w20, h20, _, L20, rfl, D20.map, D20.chg, Nat.le_refl _, fun k h1 h2 => D20.all k ?_⟩
  simp only [List.mem_cons, List.not_mem_nil, or_false]
  omega
end Full
end Go.Proofs.Ytibpbbjlecohiaa
set_option maxRecDepth 20000
namespace Go.Proofs.Ytibpbbjlecohiaa
namespace Full
open Go Go.Vc Go.RowKit
section
variable {w w' : World} {base N Q o : Nat} {g : G8} {s : S8}
theorem Woke.pre {w1 : World} {q : Option Addr} {l : Nat} {r : List Int} {s' : S8} (h : Woke w1 w' base N Q o g q l r s') (k : Chg none_ w w1) : Woke w w' base N Q o g q l r s' := by
  obtain ⟨h1, h2, g', I, st, hn⟩ := h
  exact ⟨h1, fun b hb => ⟨Nat.le_trans k.size (h2 b hb).1, (h2 b hb).2⟩, g', I, (Stp.ofN k).trans st, hn⟩
/-- does the task wait behind its act -/
def actW (k : Int) (t : Told) : Bool := if k = 1 ∨ k = 3 ∨ k = 5 then decide (t.err = 0) && !t.got else if k = 7 then decide (t.err = 0) else false
def ActRes (w : World) (base N Q o : Nat) (g : G8) (k : Int) (t : Told) (s' : S8) (v : Value) (w' : World) : Prop :=
  ∃ q l c, v = .tuple #[.bool (actW k t), .slice q l c, .int .i64 t.err] ∧ Woke w w' base N Q o g q l t.woken s'
theorem ActRes.take {w1 w2 : World} {k : Int} {b : Bool} {e : Int} {s' : S8} (k1 : Chg none_ w w1) (hk : k = 1 ∨ k = 3 ∨ k = 5) (I : ∃ g', InvG w2 base N Q o g' s' ∧ Stp o w1 g w2 g') :
    bcase (e == 0) (ActRes w base N Q o g k ⟨b, [], 0, e⟩ s' (.tuple #[.bool (!b), .slice none 0 0, .int .i64 e]) w2) (ActRes w base N Q o g k ⟨b, [], 0, e⟩ s' (.tuple #[.bool false, .slice none 0 0, .int .i64 e]) w2) := by
  obtain ⟨g', I, st⟩ := I
  have W : Woke w w2 base N Q o g none 0 [] s' := (Woke.nil I st).pre k1
  refine bc (fun h => ?_) fun h => ?_
  · have h : e = 0 := by simpa using h
    exact ⟨none, 0, 0, by rw [actW, if_pos hk, h]; simp, W⟩
  · have h : ¬ e = 0 := by simpa using h
    refine ⟨none, 0, 0, ?_, W⟩
    rw [actW, if_pos hk]
    simp [h]
theorem act_call (h : InvG w base N Q o g s) (hN : N ≤ 3000000000000000000) (hQ : Q ≤ 4398046511104) {lo : Nat} {k : Int} {u : Value} (hu : DoerOk w lo k u) (task n m : Int) :
    callV Try.prog FL u [.pointer (some (ad o)), .int .i64 task, .agg #[.int .i64 k, .int .i64 n, .int .i64 m]] w (Ret (ActRes w base (N + 2) (Q + 1) o g k (doesF s task k n m).1 (doesF s task k n m).2)) := by
  rcases hu with ⟨c, f, hc, rfl, B, hf⟩ | ⟨c, f, hc, rfl, B, hf⟩ | ⟨rfl, rfl⟩ | ⟨rfl, rfl⟩ | ⟨rfl, rfl⟩
  · refine callV_of rfl ?_
    refine f158.calls _ _ _ _ _ _ ?_
    unfold f158.wp
    refine newBox fun w1 B1 k1 _ => ?_
    have h1 := h.chgN k1
    have Bc := k1.blk B (fun x => x)
    refine onPtr_mk ⟨_, (Bc.cell 0).trans rfl, _, (B1.cell0 1).trans rfl, ?_⟩
    rcases hf with ⟨rfl, rfl⟩ | ⟨rfl, rfl⟩ | ⟨rfl, rfl⟩
    · refine callV_of rfl (Calls.use (lock18 h1 (by omega) hQ task n) ?_)
      rintro _ w2 ⟨rfl, g', I, st⟩
      exact ⟨_, _, rfl, ActRes.take k1 (.inl rfl) ⟨g', I.up (by omega) (Nat.le_refl _), st⟩⟩
    · refine callV_of rfl (Calls.use (rlock47 h1 (by omega) hQ task n) ?_)
      rintro _ w2 ⟨rfl, g', I, st⟩
      exact ⟨_, _, rfl, ActRes.take k1 (.inr (.inl rfl)) ⟨g', I.up (by omega) (Nat.le_refl _), st⟩⟩
    · refine callV_of rfl (Calls.use (wlock49 h1 (by omega) hQ task n) ?_)
      rintro _ w2 ⟨rfl, g', I, st⟩
      exact ⟨_, _, rfl, ActRes.take k1 (.inr (.inr rfl)) ⟨g', I.up (by omega) (Nat.le_refl _), st⟩⟩
  · refine callV_of rfl ?_
    refine f160.calls _ _ _ _ _ _ ?_
    unfold f160.wp
    refine newBox fun w1 B1 k1 _ => ?_
    have h1 := h.chgN k1
    have Bc := k1.blk B (fun x => x)
    refine onPtr_mk ⟨_, (Bc.cell 0).trans rfl, _, (B1.cell0 1).trans rfl, ?_⟩
    rcases hf with ⟨rfl, rfl⟩ | ⟨rfl, rfl⟩ | ⟨rfl, rfl⟩ | ⟨rfl, rfl⟩ | ⟨rfl, rfl⟩
    · refine callV_of rfl (Calls.use (unlock19 h1 task n) ?_)
      rintro _ w2 ⟨q, l, c, rfl, W⟩
      exact ⟨_, _, _, _, rfl, q, l, c, rfl, ((W.upQ (Nat.le_succ Q)).upN (by omega)).pre k1⟩
    · refine callV_of rfl (Calls.use (runlock48 h1 hQ task n) ?_)
      rintro _ w2 ⟨q, l, c, rfl, W⟩
      exact ⟨_, _, _, _, rfl, q, l, c, rfl, ((W.upQ (Nat.le_succ Q)).upN (by omega)).pre k1⟩
    · refine callV_of rfl (Calls.use (wunlock50 h1 hQ task n) ?_)
      rintro _ w2 ⟨q, l, c, rfl, W⟩
      exact ⟨_, _, _, _, rfl, q, l, c, rfl, ((W.upQ (Nat.le_succ Q)).upN (by omega)).pre k1⟩
    · refine callV_of rfl (Calls.use (signal52 h1 (by omega) hQ task n) ?_)
      rintro _ w2 ⟨q, l, c, rfl, W⟩
      exact ⟨_, _, _, _, rfl, q, l, c, rfl, ((W.upQ (Nat.le_succ Q)).upN (by omega)).pre k1⟩
    · refine callV_of rfl (Calls.use (broadcast53 h1 (by omega) hQ task n) ?_)
      rintro _ w2 ⟨q, l, c, rfl, W⟩
      exact ⟨_, _, _, _, rfl, q, l, c, rfl, ((W.upQ (Nat.le_succ Q)).upN (by omega)).pre k1⟩
  · refine callV_of rfl ?_
    refine f161.calls _ _ _ _ _ ?_
    unfold f161.wp
    refine newBox fun w1 B1 k1 _ => ?_
    have h1 := h.chgN k1
    refine ⟨_, (B1.cell0 1).trans rfl, _, (B1.cell0 2).trans rfl, Calls.use (wait51 h1 hN hQ task n m) ?_⟩
    rintro _ w2 ⟨q, l, c, rfl, W⟩
    refine ⟨_, _, _, _, rfl, q, l, c, ?_, W.pre k1⟩
    rw [actW, if_neg (by decide), if_pos rfl]
    rfl
  · refine callV_of rfl ?_
    refine f162.calls _ _ _ _ _ ?_
    unfold f162.wp
    refine newBox fun w1 B1 k1 _ => ?_
    have h1 := h.chgN k1
    refine ⟨_, (B1.cell0 1).trans rfl, _, (B1.cell0 2).trans rfl, Calls.use (add54 h1 task n m) ?_⟩
    rintro _ w2 ⟨rfl, g', I, st⟩
    exact ⟨_, _, rfl, none, 0, 0, rfl, (Woke.nil (I.up (by omega) (by omega)) st).pre k1⟩
  · refine callV_of rfl ?_
    refine f163.calls _ _ _ _ _ ?_
    unfold f163.wp
    refine newBox fun w1 B1 k1 _ => ?_
    exact ⟨none, 0, 0, rfl, (Woke.nil ((h.chgN k1).up (by omega) (by omega)) (Stp.refl o w1 g)).pre k1⟩
end
end Full
end Go.Proofs.Ytibpbbjlecohiaa
set_option maxRecDepth 20000
namespace Go.Proofs.Ytibpbbjlecohiaa
namespace Full
open Go Go.Vc Go.RowKit
/-! # a program's step -/
abbrev Act := Int × Int × Int
def En.act : En Act := ⟨3, fun x => [.int .i64 x.1, .int .i64 x.2.1, .int .i64 x.2.2], fun _ => rfl, fun _ v hv => by simp at hv; rcases hv with rfl | rfl | rfl <;> rfl, by decide⟩
structure Tn where
  task : Int
  act : Int
  waits : Bool
  err : Int
def En.turn : En Tn := ⟨4, fun x => [.int .i64 x.task, .int .i64 x.act, .bool x.waits, .int .i64 x.err], fun _ => rfl, fun _ v hv => by simp at hv; rcases hv with rfl | rfl | rfl | rfl <;> rfl, by decide⟩
def En.pt : En Nat := ⟨1, fun b => [.pointer (some (ad b))], fun _ => rfl, fun _ v hv => by simp at hv; subst hv; rfl, by decide⟩
theorem elemPt : ElemOk Try.prog 117 118 1 8 := ⟨Try.underlying117, .pointer none, by kernel_rfl, rfl⟩
theorem elemTurn : ElemOk Try.prog 52 62 4 32 := ⟨Try.underlying52, .agg #[.int .i64 0, .int .i64 0, .bool false, .int .i64 0], by kernel_rfl, rfl⟩
theorem onPtr_q {q : Option Addr} {a : Addr} {C : Addr → Prop} (h : q = some a) (hc : C a) : onPtr q C := by subst h; exact onPtr_mk hc
theorem callV_use {P : Program} {F : List Nat} {u : Value} {vs : List Value} {w : World} {R : Value → World → Prop} {K : Ending → World → Prop} (h : callV P F u vs w (Ret R)) (hr : ∀ v w', R v w' → K (.returned v) w') : callV P F u vs w K := by
  unfold callV at h ⊢
  split at h
  · rename_i g first cap
    cases hc : F.elem g with
    | false => rw [hc] at h; exact h.elim
    | true =>
      rw [hc] at h
      simp only [cond_true] at h ⊢
      exact Calls.use h hr
  · exact h.elim
/-- programs of acts, as they came in -/
structure ActsR (w : World) (z : Hd) (acts : List (List Act)) : Prop where
  ex : ∃ hs : List Hd, RE En.hd w z.1 z.2.1 hs ∧ hs.length = acts.length ∧ ∀ (i : Nat) (h : Hd) (ys : List Act), hs[i]? = some h → acts[i]? = some ys → RE En.act w h.1 h.2.1 ys
theorem ActsR.chg {w w' : World} {z : Hd} {acts : List (List Act)} (h : ActsR w z acts) (k : Chg none_ w w') : ActsR w' z acts := by
  obtain ⟨hs, h1, h2, h3⟩ := h.ex
  exact ⟨hs, h1.chg k, h2, fun i x ys hx ha => (h3 i x ys hx ha).chg k⟩
theorem ActsR.at' {w : World} {z : Hd} {acts : List (List Act)} (h : ActsR w z acts) {i : Nat} {ys : List Act} (ha : acts[i]? = some ys) :
    i < z.2.1 ∧ ∃ (a : Addr) (hd : Hd), z.1 = some a ∧ w.cell? (a.add (i * 1)) = some (.slice hd.1 hd.2.1 hd.2.2) ∧ RE En.act w hd.1 hd.2.1 ys := by
  obtain ⟨hs, h1, h2, h3⟩ := h.ex
  have hi := get_lt ha
  have hl := h1.len
  obtain ⟨a, x, hz, hx, hr⟩ := h1.ex (i := i) (by omega)
  exact ⟨by omega, a, x, hz, reads_one' hr, h3 i x ys hx ha⟩
/-- a play under way -/
structure PI (w0 w : World) (base N Q o bp : Nat) (g : G8) (s : S8) (z tk : Hd) (bs ats : List Nat) (ord : List Tn) : Prop where
  chg : Chg none_ w0 w
  lat : InvG w base N Q o g s
  lo : w0.heap.size ≤ base
  bpl : base ≤ bp
  bpn : ¬ Own g o bp
  pl : ∃ q l c, Blk w bp 116 #[.pointer (some (ad o)), .slice none 0 0, .slice q l c, .slice none 0 0, .slice none 0 0, .slice z.1 z.2.1 z.2.2] ∧ SE En.turn w base 62 q l c ord ∧ ∀ b, qB q = some b → ¬ Own g o b
  ts : SE En.pt w base 118 tk.1 tk.2.1 tk.2.2 bs
  tn : ∀ b, qB tk.1 = some b → ¬ Own g o b
  len : bs.length = ats.length
  pr : ∀ (i b a : Nat), bs[i]? = some b → ats[i]? = some a → Blk w b 120 #[.pointer (some (ad bp)), .int .i64 (i : Int), .int .i64 (a : Int)] ∧ base ≤ b ∧ ¬ Own g o b
  one : ∀ (i j b : Nat), bs[i]? = some b → bs[j]? = some b → i = j
theorem PI.chgN {w0 w w' : World} {base N Q o bp : Nat} {g : G8} {s : S8} {z tk : Hd} {bs ats : List Nat} {ord : List Tn} (h : PI w0 w base N Q o bp g s z tk bs ats ord) (k : Chg none_ w w') : PI w0 w' base N Q o bp g s z tk bs ats ord := by
  obtain ⟨q, l, c, B, S, hn⟩ := h.pl
  exact { h with chg := h.chg.trans k, lat := h.lat.chgN k, ts := h.ts.chgN k, pl := ⟨q, l, c, k.blk B fun x => x, S.chgN k, hn⟩, pr := fun i b a hb ha => ⟨k.blk (h.pr i b a hb ha).1 fun x => x, (h.pr i b a hb ha).2⟩ }
theorem PI.stp {w0 w w' : World} {base N Q N' Q' o bp : Nat} {g g' : G8} {s s' : S8} {z tk : Hd} {bs ats : List Nat} {ord : List Tn} (h : PI w0 w base N Q o bp g s z tk bs ats ord) (I : InvG w' base N' Q' o g' s') (st : Stp o w g w' g') : PI w0 w' base N' Q' o bp g' s' z tk bs ats ord := by
  obtain ⟨q, l, c, B, S, hn⟩ := h.pl
  obtain ⟨S', hn'⟩ := st.se S hn
  exact ⟨st.up h.chg h.lat h.lo, I, h.lo, h.bpl, st.nown B.lt h.bpn, ⟨q, l, c, st.blk B h.bpn, S', hn'⟩, (st.se h.ts h.tn).1, (st.se h.ts h.tn).2, h.len, fun i b a hb ha => by
    obtain ⟨X, h1, h2⟩ := h.pr i b a hb ha
    exact ⟨st.blk X h2, h1, st.nown X.lt h2⟩, h.one⟩
/-- what a step comes to -/
def StepR (w0 : World) (base N Q o bp : Nat) (z tk : Hd) (bs ats : List Nat) (ord : List Tn) (i a : Nat) (k : Int) (r : Told × S8) (v : Value) (w' : World) : Prop :=
  ∃ dn wt q l c, v = .agg #[.bool dn, .bool wt, .slice q l c] ∧ ∃ g', PI w0 w' base N Q o bp g' r.2 z tk bs (ats.set i (a + 1)) (ord ++ [⟨(i : Int), (a : Int), actW k r.1, r.1.err⟩])
theorem step155 {w0 w : World} {base N Q o bp : Nat} {g : G8} {s : S8} {z tk : Hd} {bs ats : List Nat} {ord : List Tn} {acts : List (List Act)} (h : PI w0 w base N Q o bp g s z tk bs ats ord) (hA : ActsR w0 z acts) (hN : N ≤ 3000000000000000000) (hQ : Q ≤ 4398046511104) (ho : ord.length ≤ 1000000)
    {i b a : Nat} {ys : List Act} {k n m : Int} (hb : bs[i]? = some b) (ha : ats[i]? = some a) (has : acts[i]? = some ys) (hact : ys[a]? = some (k, n, m)) (hk : 1 ≤ k ∧ k ≤ 11) (hal : a ≤ 1000000) :
    Calls Try.prog 155 #[.pointer (some (ad b)), .int .i64 (i : Int)] w (Ret (StepR w0 base (N + 2) (Q + 1) o bp z tk bs ats ord i a k (doesF s (i : Int) k n m))) := by
  refine f155.calls _ _ ?_
  unfold f155.wp
  refine newBox fun w1 B1 k1 s1 => ?_
  have h1 := h.chgN k1
  have k1d : Chg none_ w1 w1.drew := (Chg.refl none_ w1).drew
  have h1d := h1.chgN k1d
  obtain ⟨X1, bl, bn⟩ := h1d.pr i b a hb ha
  obtain ⟨q, l, c, P1, S1, hqn⟩ := h1d.pl
  obtain ⟨hil, az, hd, hz, hc, hRE⟩ := (hA.chg h1d.chg).at' has
  have hlen := hRE.len
  have hal' := get_lt hact
  obtain ⟨a6, x6, he6, hx6, hr6⟩ := hRE.ex (i := a) (by omega)
  have hx : x6 = (k, n, m) := by rw [hact] at hx6; exact (Option.some.inj hx6).symm
  subst hx
  refine onPtr_mk ⟨_, (X1.cell 0).trans rfl, onPtr_mk ⟨_, _, _, (P1.cell0 5).trans rfl, onPtr_mk ⟨_, (X1.cell0 1).trans rfl, onPtr_q hz ⟨by omega, by omega, _, _, _, hc, onPtr_mk ⟨_, (X1.cell0 2).trans rfl, onPtr_q he6 ⟨by omega, by omega, _, _, _, hr6, boxed rfl rfl fun w3 B3 k3 s3 => ?_⟩⟩⟩⟩⟩⟩
  have k13 : Chg none_ w1 w3.drew := k1d.trans k3.drew
  have h3 := h1.chgN k13
  obtain ⟨X3, _, _⟩ := h3.pr i b a hb ha
  obtain ⟨q', l', c', P3, S3, hqn3⟩ := h3.pl
  have B3d := B3.drew
  have hw3 : w1.drew.heap.size < w3.drew.heap.size := by have := B3d.lt; exact this
  refine ⟨fun p => p.block = w1.drew.heap.size ∨ p.block = b ∨ p.block = bp, _, .inl rfl, (B3d.cell 0).trans rfl, onPtr_mk ⟨_, .inr (.inl rfl), (X3.cell 0).trans rfl, onPtr_mk ⟨_, .inr (.inr rfl), (P3.cell 0).trans rfl, _, _, _, (fun j _ => .inl (add_block _ _)), B3d.reads0, Calls.use (doers156 w3.drew) ?_⟩⟩⟩
  rintro _ w4 ⟨md, L, rfl, M4, k4, hlo4, hdo⟩
  have ke4 : Keeps (fun p => p.block = w1.drew.heap.size ∨ p.block = b ∨ p.block = bp) w3.drew w4 := fun p hp => k4.cell (by rcases hp with hp | hp | hp <;> rw [hp]; exact B3d.lt; exact X3.lt; exact P3.lt) (fun x => x)
  obtain ⟨u, hu, hD⟩ := hdo k hk.1 hk.2
  have hlook := M4.look (t := 231) key3 Try.underlying231 (z := .nilFunc) (by kernel_rfl) (x := k) (by
    show (Lit.int .i64 k).wf = true
    simp [Lit.wf, IntKind.min, IntKind.max, IntKind.signed, IntKind.bits]
    omega)
  rw [hu] at hlook
  have h4 := h3.chgN k4
  have X4 := k4.blk X3 fun x => x
  refine ⟨_, rfl, ke4, u, w4, hlook, ke4, ?_⟩
  refine callV_use (act_call h4.lat hN hQ hD (i : Int) n m) ?_
  generalize doesF s (i : Int) k n m = r
  obtain ⟨td, s'⟩ := r
  rintro _ w6 ⟨q3, l3, c3, rfl, W⟩
  obtain ⟨_, _, g', I6, st, _⟩ := W
  have hbox : ¬ Own g o w1.drew.heap.size := fun ho' => by have := (h1d.lat.own_lt ho').1; omega
  have hbox0 : ¬ Own g o w.heap.size := fun ho' => by have := (h.lat.own_lt ho').1; omega
  obtain ⟨P4, P4n⟩ : Blk w4 bp 116 _ ∧ ¬ Own g o bp := ⟨k4.blk P3 fun x => x, h4.bpn⟩
  have B4 := k4.blk B3d fun x => x
  have B14 : Blk w4 w.heap.size 125 _ := (k13.trans k4).blk B1 fun x => x
  have ke6 : Keeps (fun p => p.block = w1.drew.heap.size ∨ p.block = b ∨ p.block = bp) w3.drew w6 := fun p hp => (st.chg.cell (by rcases hp with hp | hp | hp <;> rw [hp]; exact B4.lt; exact X4.lt; exact P4.lt) (by
    rcases hp with hp | hp | hp <;> rw [hp]
    · exact hbox
    · exact bn
    · exact P4n)).trans (ke4 p hp)
  have h6 := h4.stp I6 st
  have kdd : Chg none_ w6 w6.drew := (Chg.refl none_ w6).drew
  have h6d := h6.chgN kdd
  obtain ⟨X6, _, bn6⟩ := h6d.pr i b a hb ha
  obtain ⟨q4, l4, c4, P6, S6, hqn6⟩ := h6d.pl
  have hol := S6.len
  have B16 : Blk w6.drew w.heap.size 125 _ := kdd.blk (st.blk B14 hbox0) fun x => x
  have hbox6 : ¬ Own g' o w.heap.size := st.nown B14.lt hbox0
  refine ⟨_, _, _, _, _, rfl, ke6, fun p => p.block = b ∨ p.block = bp, onPtr_mk ⟨_, .inl rfl, (X6.cell 0).trans rfl, onPtr_mk ⟨_, .inl rfl, (X6.cell 0).trans rfl, onPtr_mk ⟨_, _, _, .inr rfl, (P6.cell 2).trans rfl, onPtr_mk ⟨_, .inl rfl, (X6.cell0 2).trans rfl, newBox fun w7 B7 k7 s7 => ?_⟩⟩⟩⟩⟩
  have S7 := S6.chgN k7
  obtain ⟨q5, c5, w8, hrun, S8, k8, hq8, _⟩ := S7.append1 (t := 52) (ty := 52) (x := ⟨(i : Int), (a : Int), actW k td, td.err⟩) elemTurn B7 (by simp only [maxLen]; omega) (by show (l4 + 1) * 32 ≤ _; omega) (by
    have e1 := h6d.bpl
    have e2 := P6.lt
    have e3 := k7.size
    omega)
  have X7 := k7.blk X6 fun x => x
  have P7 := k7.blk P6 fun x => x
  have nt : ∀ {g1 : Nat} {t : TypeId} {cs : Array Value}, 62 ≠ t → Blk w7 g1 t cs → ¬ some g1 = qB q4 := fun ht B e => by
    obtain ⟨cs', B'⟩ := S7.blk e.symm
    exact ht (B'.type B).1
  have X8 := k8.blk X7 (nt (by decide) X7)
  have P8 := k8.blk P7 (nt (by decide) P7)
  have ke7 : Keeps (fun p => p.block = b ∨ p.block = bp) w6.drew w7 := fun p hp => k7.cell (by rcases hp with hp | hp <;> rw [hp]; exact X6.lt; exact P6.lt) (fun x => x)
  have ke8 : Keeps (fun p => p.block = b ∨ p.block = bp) w6.drew w8 := fun p hp => (k8.cell (by rcases hp with hp | hp <;> rw [hp]; exact X7.lt; exact P7.lt) (by
    rcases hp with hp | hp <;> rw [hp]
    · exact nt (by decide) X7
    · exact nt (by decide) P7)).trans (ke7 p hp)
  refine ⟨ke7, q5, l4 + 1, c5, w8, hrun, ke8, onPtr_mk ⟨P8.canStore0 (o := 2) (n := 1) (by show 2 + 1 ≤ 6; decide), fun w9 e9 => ?_⟩⟩
  obtain ⟨P9, k9⟩ := P8.put (i := 2) e9
  have nbp : b ≠ bp := fun e => by rw [e] at X8; exact absurd (X8.type P8).1 (by decide)
  have X9 := k9.blk X8 nbp
  refine onPtr_mk ⟨_, (X9.cell0 2).trans rfl, onPtr_mk ⟨X9.canStore0 (o := 2) (n := 1) (by show 2 + 1 ≤ 3; decide), fun w10 e10 => ?_⟩⟩
  rw [wrapS (x := (a : Int) + 1) (by omega) (by omega)] at e10
  obtain ⟨X10, k10⟩ := X9.put (i := 2) e10
  have P10 := k10.blk P9 nbp.symm
  have hb0 : w.heap.size ≠ b := fun e => by
    have := X8.type (k8.blk (k7.blk B16 fun x => x) (nt (by decide) (k7.blk B16 fun x => x)) |> fun B => by rw [e] at B; exact B)
    exact absurd this.1 (by decide)
  have hb1 : w.heap.size ≠ bp := fun e => by
    have := P8.type (k8.blk (k7.blk B16 fun x => x) (nt (by decide) (k7.blk B16 fun x => x)) |> fun B => by rw [e] at B; exact B)
    exact absurd this.1 (by decide)
  have B17 := k7.blk B16 fun x => x
  have B18 := k8.blk B17 (nt (by decide) B17)
  have B110 : Blk w10 w.heap.size 125 _ := k10.blk (k9.blk B18 hb1) hb0
  refine onPtr_mk ⟨_, (X10.cell0 2).trans rfl, ?_⟩
  have fin : ∀ {w11 : World} {v : Value} {dn wt : Bool} {q l c}, Chg (fun x => x = w.heap.size) w10 w11 → v = .agg #[.bool dn, .bool wt, .slice q l c] → StepR w0 base (N + 2) (Q + 1) o bp z tk bs ats ord i a k (td, s') v w11 := fun {w11 v dn wt q l c} k11 hv => by
    have kT : Chg (fun x => some x = qB q4 ∨ x = bp ∨ x = b ∨ x = w.heap.size) w7 w11 := ((k8.mono (S' := fun x => some x = qB q4 ∨ x = bp ∨ x = b ∨ x = w.heap.size) fun _ _ h => .inl h).trans' k9 (fun x hx => .inl (.inr (.inl hx)))).trans' k10 (fun x hx => .inl (.inr (.inr (.inl hx)))) |>.trans' k11 fun x hx => .inl (.inr (.inr (.inr hx)))
    have P11 := k11.blk P10 hb1.symm
    have X11 := k11.blk X10 hb0.symm
    have h7 := h6d.chgN k7
    have hbw : w0.heap.size ≤ w.heap.size := h.chg.size
    have hTlo : ∀ x, (some x = qB q4 ∨ x = bp ∨ x = b ∨ x = w.heap.size) → w0.heap.size ≤ x := fun x hx => by
      rcases hx with hx | hx | hx | hx
      · exact Nat.le_trans h.lo (S7.lt hx.symm).2
      · rw [hx]; exact Nat.le_trans h.lo h.bpl
      · rw [hx]; exact Nat.le_trans h.lo bl
      · rw [hx]; exact hbw
    have hTn : ∀ x, (some x = qB q4 ∨ x = bp ∨ x = b ∨ x = w.heap.size) → ¬ Own g' o x := fun x hx => by
      rcases hx with hx | hx | hx | hx
      · exact hqn6 x hx.symm
      · rw [hx]; exact h6.bpn
      · rw [hx]; exact bn6
      · rw [hx]; exact hbox6
    refine ⟨dn, wt, q, l, c, hv, g', h7.chg.up kT hTlo, h7.lat.chg kT hTn, h.lo, h.bpl, h6.bpn, ⟨q5, l4 + 1, c5, P11, ?_, fun x hx => ?_⟩, h7.ts.chg kT fun x hx hs => ?_, h7.tn, by simp [h.len], fun j b' a' hj ha' => ?_, h.one⟩
    · have e9' := S8.chg k9 fun x hx hs => (by obtain ⟨cs', B'⟩ := S8.blk hx; rw [hs] at B'; exact absurd (B'.type P8).1 (by decide))
      have e10' := e9'.chg k10 fun x hx hs => (by obtain ⟨cs', B'⟩ := e9'.blk hx; rw [hs] at B'; exact absurd (B'.type X9).1 (by decide))
      exact e10'.chg k11 fun x hx hs => (by obtain ⟨cs', B'⟩ := e10'.blk hx; rw [hs] at B'; exact absurd (B'.type B110).1 (by decide))
    · rcases hq8 with hq8 | hq8
      · rw [hq8] at hx; exact hqn6 x hx
      · rw [hq8] at hx
        cases hx
        exact fun ho' => by have := (h7.lat.own_lt ho').1; omega
    · obtain ⟨cs', Y⟩ := h7.ts.blk hx
      rcases hs with hs | hs | hs | hs
      · exact nt (by decide) Y hs
      · rw [hs] at Y; exact absurd (Y.type P7).1 (by decide)
      · rw [hs] at Y; exact absurd (Y.type X7).1 (by decide)
      · rw [hs] at Y; exact absurd (Y.type B17).1 (by decide)
    · by_cases hji : j = i
      · subst hji
        rw [hb] at hj
        cases hj
        rw [List.getElem?_set_self (get_lt ha)] at ha'
        cases ha'
        exact ⟨X11, bl, bn6⟩
      · rw [List.getElem?_set_ne (Ne.symm hji)] at ha'
        obtain ⟨Y, y1, y2⟩ := h7.pr j b' a' hj ha'
        refine ⟨kT.blk Y fun hx => ?_, y1, y2⟩
        rcases hx with hx | hx | hx | hx
        · exact nt (by decide) Y hx
        · rw [hx] at Y; exact absurd (Y.type P7).1 (by decide)
        · exact hji (h.one j i b' hj (by rw [hx]; exact hb))
        · rw [hx] at Y; exact absurd (Y.type B17).1 (by decide)
  refine bc (fun _ => B110.store rfl rfl fun w11 B11 k11 _ => ⟨_, _, _, _, _, B11.reads0, fin k11 rfl⟩) fun _ => B110.store rfl rfl fun w11 B11 k11 _ => ⟨_, _, _, _, _, B11.reads0, fin k11 rfl⟩
end Full
end Go.Proofs.Ytibpbbjlecohiaa
set_option maxRecDepth 20000
namespace Go.Proofs.Ytibpbbjlecohiaa
namespace Full
open Go Go.Vc Go.RowKit
/-! # may: why programs may not be played -/
def badP (p : Int) : Bool := decide (p < 0) || decide (p > 2147483647)
def badA (a : Act) : Bool := !(decide (1 ≤ a.1) && decide (a.1 ≤ 11))
def sumL (acts : List (List Act)) : Nat := (acts.map List.length).sum
def pmayF (acts : List (List Act)) (picks : List Int) : Int :=
  if 16 < acts.length ∨ 4096 < sumL acts ∨ 65536 < picks.length then 3 else if picks.any badP then 1 else if acts.any (fun ys => ys.any badA) then 1 else 0
theorem any_next {α : Type} {l : List α} {f : α → Bool} {j : Nat} {x : α} (hx : l[j]? = some x) : (l.take (j + 1)).any f = ((l.take j).any f || f x) := by
  rw [List.take_add_one, hx, List.any_append]; simp
theorem sum_next {l : List (List Act)} {j : Nat} {x : List Act} (hx : l[j]? = some x) : sumL (l.take (j + 1)) = sumL (l.take j) + x.length := by
  unfold sumL
  rw [List.take_add_one, hx]; simp
theorem ActsR.len {w : World} {z : Hd} {acts : List (List Act)} (h : ActsR w z acts) : z.2.1 = acts.length := by
  obtain ⟨hs, h1, h2, _⟩ := h.ex
  rw [← h2, h1.len]
theorem bad91 (p : Int) (w : World) : Calls Try.prog 91 #[.int .i64 p] w (Ret fun v w' => v = .bool (badP p) ∧ w' = w) := by
  refine f91.calls _ ?_
  unfold f91.wp
  refine bc (fun h => ⟨?_, rfl⟩) fun h => ⟨?_, rfl⟩
  · rw [badP, h]; rfl
  · rw [badP, h]; rfl
theorem known94 (a b c : Int) (w : World) : Calls Try.prog 94 #[.agg #[.int .i64 a, .int .i64 b, .int .i64 c]] w (Ret fun v w' => v = .bool (decide (1 ≤ a) && decide (a ≤ 11)) ∧ Chg none_ w w') := by
  refine f94.calls _ _ _ ?_
  unfold f94.wp
  refine newBox fun w1 B1 k1 _ => ⟨_, (B1.cell 0).trans rfl, bc (fun h => ⟨_, (B1.cell 0).trans rfl, ?_, k1⟩) fun h => ⟨?_, k1⟩⟩
  · have h : 1 ≤ a := of_decide_eq_true h
    rw [decide_eq_true h]; rfl
  · have h : ¬ 1 ≤ a := of_decide_eq_false h
    rw [decide_eq_false h]; rfl
theorem bad93 (a : Act) (w : World) : Calls Try.prog 93 #[.agg #[.int .i64 a.1, .int .i64 a.2.1, .int .i64 a.2.2]] w (Ret fun v w' => v = .bool (badA a) ∧ Chg none_ w w') := by
  refine f93.calls _ _ _ ?_
  unfold f93.wp
  refine newBox fun w1 B1 k1 _ => ⟨_, _, _, B1.reads0, Calls.use (known94 _ _ _ w1) ?_⟩
  rintro _ w2 ⟨rfl, k2⟩
  exact ⟨_, rfl, rfl, k1.trans k2⟩
theorem index113 {w : World} {q : Option Addr} {l c : Nat} {xs : List Int} (h : RE En.int w q l xs) (hl : l ≤ 1000000000000000) :
    Calls Try.prog 113 #[.slice q l c, .func (.func 91) #[] #[]] w (Ret fun v w' => ∃ n : Int, v = .int .i64 n ∧ decide (n ≥ 0) = xs.any badP ∧ Chg none_ w w') := by
  refine f113_91.calls _ _ _ ?_
  unfold f113_91.wp
  have hlen := h.len
  refine ⟨fun x w' => ∃ j : Nat, x = (j : Int) ∧ j ≤ l ∧ (xs.take j).any badP = false ∧ Chg none_ w w', fun x _ => l - x.toNat, ⟨0, rfl, Nat.zero_le _, by simp, Chg.refl _ _⟩, ?_⟩
  rintro _ w1 ⟨j, rfl, hj, ha, k1⟩
  refine bc (fun hlt => ?_) fun hge => ?_
  · have hj' : j < l := by simpa using hlt
    obtain ⟨a, x, hq, hx, hr⟩ := (h.chg k1).ex hj'
    refine onPtr_q hq ⟨by omega, by omega, _, reads_one' hr, Calls.use (bad91 x w1) ?_⟩
    rintro _ w2 ⟨rfl, rfl⟩
    rw [wrapS (x := (j : Int) + 1) (by omega) (by omega)]
    refine ⟨_, rfl, bc (fun hb => ⟨_, rfl, ?_, k1⟩) fun hb => ⟨⟨j + 1, by omega, hj', ?_, k1⟩, meas hj'⟩⟩
    · rw [decide_eq_true (by omega)]
      exact (List.any_eq_true.2 ⟨x, List.mem_of_getElem? hx, hb⟩).symm
    · rw [any_next hx, ha, hb]; rfl
  · have hjl : j = l := by have := of_decide_eq_false hge; omega
    rw [hjl, List.take_of_length_le (by omega)] at ha
    exact ⟨_, rfl, by rw [ha]; decide, k1⟩
theorem index114 {w : World} {q : Option Addr} {l c : Nat} {xs : List Act} (h : RE En.act w q l xs) (hl : l ≤ 1000000000000000) :
    Calls Try.prog 114 #[.slice q l c, .func (.func 93) #[] #[]] w (Ret fun v w' => ∃ n : Int, v = .int .i64 n ∧ decide (n ≥ 0) = xs.any badA ∧ Chg none_ w w') := by
  refine f114_93.calls _ _ _ ?_
  unfold f114_93.wp
  have hlen := h.len
  refine ⟨fun x w' => ∃ j : Nat, x = (j : Int) ∧ j ≤ l ∧ (xs.take j).any badA = false ∧ Chg none_ w w', fun x _ => l - x.toNat, ⟨0, rfl, Nat.zero_le _, by simp, Chg.refl _ _⟩, ?_⟩
  rintro _ w1 ⟨j, rfl, hj, ha, k1⟩
  refine bc (fun hlt => ?_) fun hge => ?_
  · have hj' : j < l := by simpa using hlt
    obtain ⟨a, x, hq, hx, hr⟩ := (h.chg k1).ex hj'
    refine onPtr_q hq ⟨by omega, by omega, _, _, _, hr, Calls.use (bad93 x w1) ?_⟩
    rintro _ w2 ⟨rfl, k2⟩
    rw [wrapS (x := (j : Int) + 1) (by omega) (by omega)]
    refine ⟨_, rfl, bc (fun hb => ⟨_, rfl, ?_, k1.trans k2⟩) fun hb => ⟨⟨j + 1, by omega, hj', ?_, k1.trans k2⟩, meas hj'⟩⟩
    · rw [decide_eq_true (by omega)]
      exact (List.any_eq_true.2 ⟨x, List.mem_of_getElem? hx, hb⟩).symm
    · rw [any_next hx, ha, hb]; rfl
  · have hjl : j = l := by have := of_decide_eq_false hge; omega
    rw [hjl, List.take_of_length_le (by omega)] at ha
    exact ⟨_, rfl, by rw [ha]; decide, k1⟩
theorem any90 {w : World} {q : Option Addr} {l c : Nat} {xs : List Int} (h : RE En.int w q l xs) (hl : l ≤ 1000000000000000) :
    Calls Try.prog 90 #[.slice q l c, .func (.func 91) #[] #[]] w (Ret fun v w' => v = .bool (xs.any badP) ∧ Chg none_ w w') := by
  refine f90_91.calls _ _ _ ?_
  unfold f90_91.wp
  refine Calls.use (index113 h hl) ?_
  rintro _ w1 ⟨n, rfl, hn, k⟩
  exact ⟨_, rfl, by rw [hn], k⟩
theorem any92 {w : World} {q : Option Addr} {l c : Nat} {xs : List Act} (h : RE En.act w q l xs) (hl : l ≤ 1000000000000000) :
    Calls Try.prog 92 #[.slice q l c, .func (.func 93) #[] #[]] w (Ret fun v w' => v = .bool (xs.any badA) ∧ Chg none_ w w') := by
  refine f92_93.calls _ _ _ ?_
  unfold f92_93.wp
  refine Calls.use (index114 h hl) ?_
  rintro _ w1 ⟨n, rfl, hn, k⟩
  exact ⟨_, rfl, by rw [hn], k⟩
theorem sumL_take_le (acts : List (List Act)) (hb : ∀ ys ∈ acts, ys.length ≤ 10000000000000) : ∀ j, sumL (acts.take j) ≤ j * 10000000000000
  | 0 => by simp [sumL]
  | j + 1 => by
    have ih := sumL_take_le acts hb j
    cases hx : acts[j]? with
    | none =>
      rw [List.take_add_one, hx]
      rw [Option.toList_none, List.append_nil]
      exact Nat.le_trans ih (Nat.mul_le_mul_right _ (Nat.le_succ j))
    | some x =>
      rw [sum_next hx, Nat.succ_mul]
      exact Nat.add_le_add ih (hb x (List.mem_of_getElem? hx))
theorem may56 {w : World} {z : Hd} {acts : List (List Act)} (hA : ActsR w z acts) (hb : ∀ ys ∈ acts, ys.length ≤ 10000000000000) (hz : z.2.1 ≤ 1000000000000000) {q : Option Addr} {l c : Nat} {picks : List Int} (hp : RE En.int w q l picks) (hl : l ≤ 1000000000000000) :
    Calls Try.prog 56 #[.slice z.1 z.2.1 z.2.2, .slice q l c] w (Ret fun v w' => v = .int .i64 (pmayF acts picks) ∧ Chg none_ w w') := by
  refine f56.calls _ _ _ _ _ _ ?_
  unfold f56.wp
  have hzl := hA.len
  have hpl := hp.len
  refine ⟨fun x1 x2 w' => ∃ j : Nat, x2 = (j : Int) ∧ j ≤ z.2.1 ∧ (z.2.1 ≤ 16 → x1 = (sumL (acts.take j) : Int)) ∧ Chg none_ w w', fun _ x2 _ => z.2.1 - x2.toNat, ⟨0, rfl, Nat.zero_le _, fun _ => by simp [sumL], Chg.refl _ _⟩, ?_⟩
  rintro x1 _ w1 ⟨j, rfl, hj, hs, k1⟩
  refine bc (fun hlt => ?_) fun hge => ?_
  · have hj' : j < z.2.1 := by simpa using hlt
    obtain ⟨ys, hy⟩ := get_ex (l := acts) (i := j) (by omega)
    obtain ⟨_, a, hd, hq, hc, hR⟩ := (hA.chg k1).at' hy
    rw [wrapS (x := (j : Int) + 1) (by omega) (by omega)]
    refine onPtr_q hq ⟨by omega, by omega, _, _, _, hc, ⟨j + 1, by omega, hj', fun h16 => ?_, k1⟩, meas hj'⟩
    have h1 := sumL_take_le acts hb j
    have h2 := hb ys (List.mem_of_getElem? hy)
    have h3 := hR.len
    have h4 : j * 10000000000000 ≤ 16 * 10000000000000 := Nat.mul_le_mul_right _ (by omega)
    rw [hs h16, sum_next hy, wrapS (by omega) (by omega)]
    omega
  have hjl : j = z.2.1 := by have := of_decide_eq_false hge; omega
  have hall : acts.take j = acts := List.take_of_length_le (by omega)
  rw [hall] at hs
  refine bc (fun h => ⟨?_, k1⟩) fun h16 => ?_
  · have h : 16 < z.2.1 := by have := of_decide_eq_true h; omega
    rw [pmayF, if_pos (.inl (by omega))]
  have h16 : z.2.1 ≤ 16 := by have := of_decide_eq_false h16; omega
  rw [hs h16]
  refine bc (fun h => ⟨?_, k1⟩) fun hs' => ?_
  · have h : 4096 < sumL acts := by have := of_decide_eq_true h; omega
    rw [pmayF, if_pos (.inr (.inl h))]
  have hs' : sumL acts ≤ 4096 := by have := of_decide_eq_false hs'; omega
  refine bc (fun h => ⟨?_, k1⟩) fun hpk => ?_
  · have h : 65536 < l := by have := of_decide_eq_true h; omega
    rw [pmayF, if_pos (.inr (.inr (by omega)))]
  have hpk : l ≤ 65536 := by have := of_decide_eq_false hpk; omega
  have e0 : pmayF acts picks = if picks.any badP then 1 else if acts.any (fun ys => ys.any badA) then 1 else 0 := by rw [pmayF, if_neg (by omega)]
  rw [e0]
  refine Calls.use (any90 (hp.chg k1) hl) ?_
  rintro _ w2 ⟨rfl, k2⟩
  have k02 := k1.trans k2
  refine ⟨_, rfl, bc (fun hb1 => ⟨by rw [hb1]; rfl, k02⟩) fun hb1 => ?_⟩
  rw [hb1]
  simp only [Bool.false_eq_true, if_false]
  refine ⟨fun x w' => ∃ j : Nat, x = (j : Int) ∧ j ≤ z.2.1 ∧ (acts.take j).any (fun ys => ys.any badA) = false ∧ Chg none_ w w', fun x _ => z.2.1 - x.toNat, ⟨0, rfl, Nat.zero_le _, by simp, k02⟩, ?_⟩
  rintro _ w3 ⟨j2, rfl, hj2, ha, k3⟩
  refine bc (fun hlt => ?_) fun hge => ?_
  · have hj' : j2 < z.2.1 := by simpa using hlt
    obtain ⟨ys, hy⟩ := get_ex (l := acts) (i := j2) (by omega)
    obtain ⟨_, a, hd, hq, hc, hR⟩ := (hA.chg k3).at' hy
    have h2 := hb ys (List.mem_of_getElem? hy)
    have h3 := hR.len
    rw [wrapS (x := (j2 : Int) + 1) (by omega) (by omega)]
    refine onPtr_q hq ⟨by omega, by omega, _, _, _, hc, Calls.use (any92 hR (by omega)) ?_⟩
    rintro _ w4 ⟨rfl, k4⟩
    refine ⟨_, rfl, bc (fun h => ⟨?_, k3.trans k4⟩) fun h => ⟨⟨j2 + 1, by omega, hj', ?_, k3.trans k4⟩, meas hj'⟩⟩
    · rw [if_pos (List.any_eq_true.2 ⟨ys, List.mem_of_getElem? hy, h⟩)]
    · rw [any_next hy, ha, h]; rfl
  · have hjl : j2 = z.2.1 := by have := of_decide_eq_false hge; omega
    rw [hjl, List.take_of_length_le (by omega)] at ha
    rw [ha]
    exact ⟨rfl, k3⟩
end Full
end Go.Proofs.Ytibpbbjlecohiaa
set_option maxRecDepth 20000
namespace Go.Proofs.Ytibpbbjlecohiaa
namespace Full
open Go Go.Vc Go.RowKit
/-! # who can run -/
def canR (wt : Int → Option W3) (acts : List (List Act)) (ats : List Nat) (i : Nat) : Bool := (wt (i : Int)).isNone && !decide (ats.getD i 0 = (acts.getD i []).length)
def readyN (wt : Int → Option W3) (acts : List (List Act)) (ats : List Nat) (n : Nat) : List Nat := (List.range n).filter (canR wt acts ats)
def toI (l : List Nat) : List Int := l.map fun i : Nat => (i : Int)
theorem readyN_succ (wt : Int → Option W3) (acts : List (List Act)) (ats : List Nat) (n : Nat) : readyN wt acts ats (n + 1) = if canR wt acts ats n then readyN wt acts ats n ++ [n] else readyN wt acts ats n := by
  unfold readyN
  rw [List.range_succ, List.filter_append, List.filter_cons, List.filter_nil]
  split
  · rfl
  · rw [List.append_nil]
theorem readyN_len (wt : Int → Option W3) (acts : List (List Act)) (ats : List Nat) (n : Nat) : (readyN wt acts ats n).length ≤ n := by
  have := List.length_filter_le (canR wt acts ats) (List.range n)
  simpa [readyN] using this
section
variable {w0 w : World} {base N Q o bp : Nat} {g : G8} {s : S8} {z tk : Hd} {bs ats : List Nat} {ord : List Tn} {acts : List (List Act)}
theorem over95 (h : PI w0 w base N Q o bp g s z tk bs ats ord) (hA : ActsR w0 z acts) {i b a : Nat} {ys : List Act} (hb : bs[i]? = some b) (ha : ats[i]? = some a) (hy : acts[i]? = some ys) :
    Calls Try.prog 95 #[.pointer (some (ad b))] w (Ret fun v w' => v = .bool (decide (a = ys.length)) ∧ Chg none_ w w') := by
  refine f95.calls _ ?_
  unfold f95.wp
  have kd : Chg none_ w w.drew := (Chg.refl none_ w).drew
  have hd := h.chgN kd
  obtain ⟨X, _, _⟩ := hd.pr i b a hb ha
  obtain ⟨q, l, c, P1, _, _⟩ := hd.pl
  obtain ⟨hil, az, hh, hz, hc, hR⟩ := (hA.chg hd.chg).at' hy
  refine onPtr_mk ⟨_, (X.cell0 2).trans rfl, onPtr_mk ⟨_, (X.cell 0).trans rfl, onPtr_mk ⟨_, _, _, (P1.cell0 5).trans rfl, onPtr_mk ⟨_, (X.cell0 1).trans rfl, onPtr_q hz ⟨by omega, by omega, _, _, _, hc, ?_, kd⟩⟩⟩⟩⟩
  have := hR.len
  congr 1
  cases hq : ((a : Int) == ((hh.2.1 : Nat) : Int)) with
  | true => have := eq_of_beq hq; exact (decide_eq_true (by omega)).symm
  | false => have := ne_of_beq_false hq; exact (decide_eq_false (by omega)).symm
theorem ready57 (h : PI w0 w base N Q o bp g s z tk bs ats ord) (hA : ActsR w0 z acts) (h16 : acts.length ≤ 16) (hal : bs.length = acts.length) :
    Calls Try.prog 57 #[.pointer (some (ad bp)), .slice tk.1 tk.2.1 tk.2.2] w (Ret fun v w' => ∃ q' l' c', v = .slice q' l' c' ∧ RE En.int w' q' l' (toI (readyN s.wt acts ats acts.length)) ∧ Chg none_ w w') := by
  refine f57.calls _ _ _ _ ?_
  unfold f57.wp
  have ht := h.ts.re
  have hl := ht.len
  generalize tk.2.1 = l at *
  refine ⟨fun q1 l1 c1 x w' => ∃ j : Nat, x = (j : Int) ∧ j ≤ l ∧ SE En.int w' w.heap.size 3 q1 l1 c1 (toI (readyN s.wt acts ats j)) ∧ Chg none_ w w', fun _ _ _ x _ => l - x.toNat, ⟨0, rfl, Nat.zero_le _, SE.nil _ _ _ _, Chg.refl _ _⟩, ?_⟩
  rintro q1 l1 c1 _ w1 ⟨j, rfl, hj, S1, k1⟩
  refine bc (fun hlt => ?_) fun hge => ?_
  rotate_left
  · have hjl : j = l := by have := of_decide_eq_false hge; omega
    rw [hjl, hl.symm.trans hal] at S1
    exact ⟨_, _, _, rfl, S1.re, k1⟩
  have hj' : j < l := by simpa using hlt
  have h1 := h.chgN k1
  obtain ⟨a, b, hq, hb, hr⟩ := (ht.chg k1).ex hj'
  obtain ⟨ta, hta⟩ := get_ex (l := ats) (i := j) (by rw [← h.len]; omega)
  obtain ⟨ys, hy⟩ := get_ex (l := acts) (i := j) (by omega)
  obtain ⟨qo, lo, co, P1, _, _⟩ := h1.pl
  have hlook := h1.lat.wts.look key3 Try.underlying87 zeroW3 (x := (j : Int)) (ok64_task (by omega) (by omega))
  rw [wrapS (x := (j : Int) + 1) (by omega) (by omega)]
  refine onPtr_q hq ⟨by omega, by omega, _, reads_one' hr, onPtr_mk ⟨_, (P1.cell 0).trans rfl, onPtr_mk ⟨_, (h1.lat.obj.cell0 4).trans rfl, _, _, _, _, w1, hlook, boxed rfl rfl fun w4 B4 k4 _ => ?_⟩⟩⟩
  have k04 := k1.trans k4
  have ea : ats.getD j 0 = ta := by rw [List.getD_eq_getElem?_getD, hta]; rfl
  have ey : acts.getD j [] = ys := by rw [List.getD_eq_getElem?_getD, hy]; rfl
  have hsl := S1.len
  have hrl := readyN_len s.wt acts ats j
  have hl1 : l1 ≤ 16 := by rw [← hsl]; simp only [toI, List.length_map]; omega
  have stay : ∀ {w' : World}, canR s.wt acts ats j = false → Chg none_ w1 w' → (∃ j' : Nat, ((j : Int) + 1) = (j' : Int) ∧ j' ≤ l ∧ SE En.int w' w.heap.size 3 q1 l1 c1 (toI (readyN s.wt acts ats j')) ∧ Chg none_ w w') ∧ l - ((j : Int) + 1).toNat < l - (j : Int).toNat := fun hc k =>
    ⟨⟨j + 1, by omega, hj', by rw [readyN_succ, hc]; exact S1.chgN k, k1.trans k⟩, meas hj'⟩
  refine bc (fun hw => ?_) fun hw => ?_
  · have hw : (s.wt (j : Int)).isNone = true := by
      cases hs : s.wt (j : Int) with
      | none => rfl
      | some v => rw [hs] at hw; cases hw
    refine Calls.use (over95 (h1.chgN k4) hA hb hta hy) ?_
    rintro _ w5 ⟨rfl, k5⟩
    have k15 := k4.trans k5
    refine ⟨_, rfl, bc (fun ho => ?_) fun ho => stay ?_ k15⟩
    · have ho : ¬ ta = ys.length := by simpa using ho
      refine newBox fun w6 B6 k6 _ => ?_
      have k16 := k15.trans k6
      obtain ⟨q2, c2, w7, hrun, S7, k7, _, _⟩ := (S1.chgN k16).append1 (t := 35) (ty := 35) (x := (j : Int)) elemInt B6 (by simp only [maxLen]; omega) (by show (l1 + 1) * 8 ≤ _; omega) (by have := (k1.trans k16).size; omega)
      refine ⟨q2, l1 + 1, c2, w7, hrun, ⟨j + 1, by omega, hj', ?_, (k1.trans k16).up k7 fun x hx => ((S1.chgN k16).lt hx.symm).2⟩, meas hj'⟩
      rw [readyN_succ, canR, hw, ea, ey, decide_eq_false ho]
      simpa [toI] using S7
    · have ho : ta = ys.length := by simpa using ho
      rw [canR, ea, ey, decide_eq_true ho]; simp
  · refine stay ?_ k4
    cases hs : s.wt (j : Int) with
    | none => rw [hs] at hw; cases hw
    | some v => rw [canR, hs]; rfl
end
/-! # a play -/
structure PS where
  s : S8
  ats : List Nat
  ord : List Tn
def actAt (acts : List (List Act)) (i a : Nat) : Act := (acts.getD i []).getD a (0, 0, 0)
def PS.ready (p : PS) (acts : List (List Act)) : List Nat := readyN p.s.wt acts p.ats acts.length
def PS.step (p : PS) (acts : List (List Act)) (t : Nat) : PS :=
  let a := p.ats.getD t 0
  let x := actAt acts t a
  let r := doesF p.s (t : Int) x.1 x.2.1 x.2.2
  ⟨r.2, p.ats.set t (a + 1), p.ord ++ [⟨(t : Int), (a : Int), actW x.1 r.1, r.1.err⟩]⟩
def pickF (picks : List Int) (i : Nat) : Int := picks.getD i 0
/-- who runs -/
def runsF (r : List Nat) (pick : Int) : Nat := r.getD (pick.tmod (r.length : Int)).toNat 0
def playN (acts : List (List Act)) (picks : List Int) : Nat → Nat → PS → PS
  | 0, _, p => p
  | f + 1, i, p => if p.ready acts = [] then p else playN acts picks f (i + 1) (p.step acts (runsF (p.ready acts) (pickF picks i)))
def startP (s : S8) (n : Nat) : PS := ⟨s, List.replicate n 0, []⟩
def playR (s : S8) (acts : List (List Act)) (picks : List Int) : PS := playN acts picks (sumL acts) 0 (startP s acts.length)
def doneN (wt : Int → Option W3) (ats : List Nat) (i : Nat) : Int := if (wt (i : Int)).isSome then (ats.getD i 0 : Int) - 1 else (ats.getD i 0 : Int)
def doneL (wt : Int → Option W3) (ats : List Nat) (n : Nat) : List Int := (List.range n).map (doneN wt ats)
def deadL (wt : Int → Option W3) (n : Nat) : List Int := toI ((List.range n).filter fun i => (wt (i : Int)).isSome)
end Full
end Go.Proofs.Ytibpbbjlecohiaa
