import Derived.Test.YtdlbmmodlkmofaaDoorPlU
set_option maxRecDepth 20000
namespace Go.Proofs.YtdlbmmodlkmofaaDoor
open Go Go.Vc Go.RowKit
/-! # the reference's Smaller: a list of plans -/
structure PnH where
  fq : Option Addr
  fl : Nat
  fc : Nat
  cq : Option Addr
  cl : Nat
  cc : Nat
def En.pnh : En PnH := ⟨2, fun x => [.slice x.fq x.fl x.fc, .slice x.cq x.cl x.cc], fun _ => rfl, fun x v hv => by simp at hv; rcases hv with rfl | rfl <;> rfl, by decide⟩
theorem elemPlan : ElemOk Tryd.prog 60 28 2 48 := ⟨Tryd.underlying60, .agg #[.slice none 0 0, .slice none 0 0], by kernel_rfl, rfl⟩
structure PlO (w : World) (base : Nat) (h : PnH) (p : Pn) : Prop where
  f : SE En.t3 w base 37 h.fq h.fl h.fc p.faults
  c : CrsO w base h.cq h.cl h.cc p.crashes
section
variable {w w' : World} {base : Nat}
theorem CrsO.chgT {q : Option Addr} {l c : Nat} {cs : List Cr} (h : CrsO w base q l c cs) {S : Nat → Prop} (k : Chg S w w') (hS : ∀ g, S g → ∃ cur, Blk w g 28 cur) : CrsO w' base q l c cs := by
  obtain ⟨hs, h1, h2, h3⟩ := h.ex
  refine ⟨hs, h1.chg k fun g hg x => ?_, h2, fun i a b ha hb => (h3 i a b ha hb).chg k fun g hg x => ?_⟩
  · obtain ⟨cur, B⟩ := hS g x; exact SE.ne h1 B (by decide) g hg rfl
  · obtain ⟨cur, B⟩ := hS g x; exact SE.ne (h3 i a b ha hb).2.2.1 B (by decide) g hg rfl
theorem CrsO.chgN {q : Option Addr} {l c : Nat} {cs : List Cr} (h : CrsO w base q l c cs) (k : Chg none_ w w') : CrsO w' base q l c cs := by
  obtain ⟨hs, h1, h2, h3⟩ := h.ex
  exact ⟨hs, h1.chgN k, h2, fun i a b ha hb => (h3 i a b ha hb).chg k fun g hg x => x⟩
theorem CrsO.lower {q : Option Addr} {l c b : Nat} {cs : List Cr} (h : CrsO w base q l c cs) (hb : b ≤ base) : CrsO w b q l c cs := by
  obtain ⟨hs, h1, h2, h3⟩ := h.ex
  exact ⟨hs, h1.lower hb, h2, fun i x y hx hy => by
    obtain ⟨a, b', d, e⟩ := h3 i x y hx hy
    exact ⟨a, b', d.lower hb, e⟩⟩
theorem CrsD.chgN {q : Option Addr} {l c : Nat} {cs : List Cr} (h : CrsD w base q l c cs) (k : Chg none_ w w') : CrsD w' base q l c cs := h.chg k fun _ x => x.elim
theorem PlO.chgT {h : PnH} {p : Pn} (o : PlO w base h p) {S : Nat → Prop} (k : Chg S w w') (hS : ∀ g, S g → ∃ cur, Blk w g 28 cur) : PlO w' base h p :=
  ⟨o.f.chg k fun g hg x => by
    obtain ⟨cur, B⟩ := hS g x
    exact SE.ne o.f B (by decide) g hg rfl, o.c.chgT k hS⟩
theorem PlO.chgN {h : PnH} {p : Pn} (o : PlO w base h p) (k : Chg none_ w w') : PlO w' base h p := ⟨o.f.chgN k, o.c.chgN k⟩
structure OutP (w : World) (base : Nat) (q : Option Addr) (n c : Nat) (ps : List Pn) : Prop where
  ex : ∃ hs, SE En.pnh w base 28 q n c hs ∧ hs.length = ps.length ∧ ∀ (i : Nat) (h : PnH) (p : Pn), hs[i]? = some h → ps[i]? = some p → PlO w base h p
theorem OutP.nil (w : World) (base : Nat) : OutP w base none 0 0 [] := ⟨[], SE.nil _ _ _ _, rfl, fun i h p hh => by simp at hh⟩
theorem OutP.len {q : Option Addr} {n c : Nat} {ps : List Pn} (h : OutP w base q n c ps) : ps.length = n := by
  obtain ⟨hs, h1, h2, _⟩ := h.ex
  rw [← h2, h1.len]
theorem OutP.chgN {q : Option Addr} {n c : Nat} {ps : List Pn} (h : OutP w base q n c ps) (k : Chg none_ w w') : OutP w' base q n c ps := by
  obtain ⟨hs, h1, h2, h3⟩ := h.ex
  exact ⟨hs, h1.chgN k, h2, fun i a b ha hb => (h3 i a b ha hb).chgN k⟩
theorem OutP.ne {q : Option Addr} {n c : Nat} {ps : List Pn} (h : OutP w base q n c ps) {g : Nat} {t : TypeId} {cs : Array Value} (B : Blk w g t cs) (ht : t ≠ 28) : ¬ some g = qB q := by
  obtain ⟨hs, h1, _⟩ := h.ex
  exact fun e => SE.ne h1 B ht g e.symm rfl
theorem OutP.lt {q : Option Addr} {n c : Nat} {ps : List Pn} (h : OutP w base q n c ps) {g : Nat} (hg : some g = qB q) : g < w.heap.size ∧ base ≤ g := by
  obtain ⟨hs, h1, _⟩ := h.ex
  exact h1.lt hg.symm
/-- one more -/
theorem OutP.push {q : Option Addr} {n c b : Nat} {ps : List Pn} {x : PnH} {p : Pn} (h : OutP w base q n c ps) (B : Blk w b 28 (En.pnh.enc x).toArray) (hx : PlO w base x p) (hn : n + 1 ≤ 4194304) (hb : base ≤ w.heap.size) :
    ∃ q' c' w', (Builtin.append_ #[60, 60] 60 #[.slice q n c, .slice (some ⟨b, 0, none⟩) 1 1]).run Tryd.prog w = .ok (.slice q' (n + 1) c') w' ∧ OutP w' base q' (n + 1) c' (ps ++ [p]) ∧ Chg (fun k => some k = qB q) w w' := by
  obtain ⟨hs, h1, h2, h3⟩ := h.ex
  obtain ⟨q', c', w', hr, S, k, _, _⟩ := h1.append1 (t := 60) (ty := 60) elemPlan B (by simp only [maxLen]; omega) (by omega) hb
  have hT : ∀ g, some g = qB q → ∃ cur, Blk w g 28 cur := fun g hg => SE.blk h1 hg.symm
  refine ⟨q', c', w', hr, ⟨hs ++ [x], S, by simp [h2], fun i a b ha hb => ?_⟩, k⟩
  rcases Nat.lt_or_ge i hs.length with hi | hi
  · rw [List.getElem?_append_left hi] at ha
    rw [List.getElem?_append_left (by omega)] at hb
    exact (h3 i a b ha hb).chgT k hT
  · have : i = hs.length := by have := get_lt ha; simp at this; omega
    subst this
    rw [List.getElem?_append_right (Nat.le_refl _), Nat.sub_self] at ha
    rw [h2, List.getElem?_append_right (Nat.le_refl _), Nat.sub_self] at hb
    cases ha; cases hb
    exact hx.chgT k hT
/-- one crash's fates are others -/
theorem crsSet {a : Addr} {l c i : Nat} {hs : List CrH} {cs : List Cr} (T : SE En.crh w base 42 (some a) l c hs) (hl : hs.length = cs.length) (hO : ∀ (j : Nat) (h : CrH) (c : Cr), j ≠ i → hs[j]? = some h → cs[j]? = some c → OwnP w base h c) {x : CrH} {f : Cr} (hx : hs[i]? = some x) (hf : cs[i]? = some f) (e1 : x.step = f.step) (e2 : x.rest = f.rest)
    {q' : Option Addr} {l' c' : Nat} {fs' : List T3} (S : SE En.t3 w base 44 q' l' c' fs') (hb : l' * 24 ≤ 140737488351232) (hD : Dst (hs.set i ⟨x.step, x.rest, q', l', c'⟩)) (e : w' = setCells ((a.add (i * 3)).add 2) 0 [.slice q' l' c'] w) :
    CrsD w' base (some a) l c (cs.set i (setF f fs')) ∧ Chg (fun k => some k = qB (some a)) w w' := by
  obtain ⟨T', k'⟩ := T.setAt (w' := w') rfl (i := i) (o := 2) (x' := ⟨x.step, x.rest, q', l', c'⟩) (vs := [.slice q' l' c']) hx (Nat.le_of_ble_eq_true rfl) (fun j => by rcases j with _ | _ | _ | j <;> rfl) e
  refine ⟨⟨_, T', by simp [hl], fun j h d hh hd => ?_, hD⟩, k'⟩
  by_cases hji : j = i
  · subst hji
    rw [List.getElem?_set_self (get_lt hx)] at hh
    rw [List.getElem?_set_self (get_lt hf)] at hd
    cases hh; cases hd
    exact ⟨e1, e2, S.chg k' fun g hg hk => SE.ne2 S T (by decide) g hg hk, hb⟩
  · rw [List.getElem?_set_ne (Ne.symm hji)] at hh hd
    have o := hO j h d hji hh hd
    exact o.chg k' fun g hg hk => SE.ne2 o.2.2.1 T (by decide) g hg hk
end
theorem smX_le {p : Pn} {i : Nat} {c : Cr} (hc : p.crashes[i]? = some c) : (smX p i).length + c.fates.length ≤ (smX p p.crashes.length).length := by
  obtain ⟨r, hr⟩ := smX_pre p (n := i + 1) (m := p.crashes.length) (get_lt hc)
  rw [hr, List.length_append, smX_next hc, List.length_append, smK_len]; omega
/-- all but the i-th, in a block of one's own -/
theorem cutOut {α : Type} {E : En α} {w w1 : World} {t e : TypeId} {bytes l c i : Nat} {q : Option Addr} {xs : List α} (hE : ElemOk Tryd.prog t e E.k bytes) (e1 : w1 = w.alloc (.cells #[] e)) (h : RE E w q l xs) (hlc : l ≤ c) (hi : i < l) (hl : l * bytes ≤ 140737488351232) (hm : l ≤ 4194304) :
    ∃ q2 c2 w2, (Builtin.append_ #[t, t] t #[.slice (some ⟨w.heap.size, 0, none⟩) 0 0, .slice q i c]).run Tryd.prog w1 = .ok (.slice q2 i c2) w2 ∧ Chg none_ w w2 ∧
      ∃ q3 c3 w3, (Builtin.append_ #[t, t] t #[.slice q2 i c2, .slice (cutP q c (i + 1) E.k) (l - (i + 1)) (c - (i + 1))]).run Tryd.prog w2 = .ok (.slice q3 (i + (l - (i + 1))) c3) w3 ∧ SE E w3 w.heap.size e q3 (i + (l - (i + 1))) c3 (er xs i) ∧ Chg none_ w w3 := by
  have S1 : SE E w1 w.heap.size e (some ⟨w.heap.size, 0, none⟩) 0 0 [] := SE.lit (new_blk e1) (Nat.le_refl _) (fun n v hv => by simp [En.flat] at hv) rfl (Nat.le_refl _) (by decide) (by simp)
  have k1 := (Chg.refl none_ w).new' e1
  have b1 : (0 + i) * bytes ≤ 140737488355328 := Nat.le_trans (Nat.mul_le_mul_right _ (by omega : 0 + i ≤ l)) (by omega)
  have b2 : (i + (l - (i + 1))) * bytes ≤ 140737488355328 := Nat.le_trans (Nat.mul_le_mul_right _ (by omega : i + (l - (i + 1)) ≤ l)) (by omega)
  obtain ⟨q2, c2, w2, hr2, S2, k2, _, _, _, _⟩ := S1.append (t := t) (ty := t) (c2 := c) hE ((h.chg k1).take (n := i) (by omega)) (by simp only [maxLen]; omega) b1 k1.size
  simp only [Nat.zero_add, List.nil_append] at S2 hr2
  have k12 : Chg none_ w w2 := k1.up k2 fun k hk => by simp [qB] at hk; omega
  obtain ⟨q3, c3, w3, hr3, S3, k3, _, _, _, _⟩ := S2.append (t := t) (ty := t) (c2 := c - (i + 1)) hE ((h.chg k12).cut (n := i + 1) (c := c) (by omega) hlc) (by simp only [maxLen]; omega) b2 k12.size
  exact ⟨q2, c2, w2, hr2, k12, q3, c3, w3, hr3, S3, k12.up k3 fun k hk => (S2.lt hk.symm).2⟩
theorem wS {i : Nat} (h : i ≤ 9223372036854775806) : IntKind.wrap .i64 ((i : Int) + 1) = (i : Int) + 1 := wrapS (by omega) (by omega)
theorem tN (i : Nat) : Int.toNat (i : Int) = i := by omega
theorem tN1 (i : Nat) : Int.toNat ((i : Int) + 1) = i + 1 := by omega
theorem er_get {α : Type} {l : List α} {i : Nat} (hi : i < l.length) (j : Nat) : (er l i)[j]? = if j < i then l[j]? else l[j + 1]? := by
  unfold er
  split
  · rw [List.getElem?_append_left (by rw [List.length_take]; omega), List.getElem?_take]
    split
    · rfl
    · omega
  · rw [List.getElem?_append_right (by rw [List.length_take]; omega), List.length_take, List.getElem?_drop]
    congr 1; omega
theorem er_len2 {α β : Type} {a : List α} {b : List β} {i : Nat} (h : a.length = b.length) : (er a i).length = (er b i).length := by
  unfold er
  simp [h]
theorem er_two {α β : Type} {a : List α} {b : List β} {i j : Nat} {x : α} {y : β} (h : a.length = b.length) (hi : i < a.length) (hx : (er a i)[j]? = some x) (hy : (er b i)[j]? = some y) : ∃ k, a[k]? = some x ∧ b[k]? = some y ∧ (j < i ∧ k = j ∨ i ≤ j ∧ k = j + 1) := by
  rw [er_get hi] at hx
  rw [er_get (by omega)] at hy
  split at hx
  · rw [if_pos (by assumption)] at hy
    exact ⟨j, hx, hy, .inl ⟨by assumption, rfl⟩⟩
  · rw [if_neg (by assumption)] at hy
    exact ⟨j + 1, hx, hy, .inr ⟨by omega, rfl⟩⟩
theorem smaller27 {w : World} {q1 q2 : Option Addr} {l1 c1 l2 c2 : Nat} {p : Pn} (h1 : RE En.t3 w q1 l1 p.faults) (h2 : CrsR w q2 l2 p.crashes) (hc1 : l1 ≤ c1) (hc2 : l2 ≤ c2) (hN : (smL p).length ≤ 4194304) :
    Calls Tryd.prog 27 #[.agg #[.slice q1 l1 c1, .slice q2 l2 c2]] w (Ret fun v w' => ∃ q n c, v = .slice q n c ∧ OutP w' (w.heap.size + 1) q n c (smL p) ∧ Chg none_ w w') := by
  have hs := sm_len p
  have el1 := h1.len
  have el2 := h2.len
  refine f27.calls _ _ _ _ _ _ ?_
  unfold f27.wp
  refine newBox fun w1 P1 k1 z1 => ?_
  refine ⟨q1, l1, c1, (P1.cell 0).trans rfl, fun q n c x w' => ∃ i : Nat, x = (i : Int) ∧ i ≤ l1 ∧ OutP w' (w.heap.size + 1) q n c (smF p i) ∧ Blk w' w.heap.size 28 #[.slice q1 l1 c1, .slice q2 l2 c2] ∧ Chg none_ w w' ∧ w.heap.size + 1 ≤ w'.heap.size, fun _ _ _ x _ => l1 - x.toNat,
    ⟨0, rfl, Nat.zero_le _, OutP.nil _ _, P1, k1, by omega⟩, ?_⟩
  rintro q n c _ w2 ⟨i, rfl, hi, O2, P2, k2, z2⟩
  have en := O2.len
  rw [smF_len] at en
  subst en
  refine bc (fun g => ?_) fun g => ?_
  · have g : i < l1 := by simpa using g
    rw [wS (by omega), tN1, tN]
    refine ⟨_, _, _, _, _, _, P2.reads0, Calls.use (copyD13 (h1.chg k2) (h2.chg k2) (by omega) (by omega)) ?_⟩
    rintro _ w3 ⟨q5, c5, q6, c6, rfl, S3, D3, k3⟩
    refine ⟨_, _, _, _, _, _, rfl, boxed rfl rfl fun w5 B5 k5 z5 => ?_⟩
    have k35 := k5.drew
    have P5 := k35.blk (k3.blk P2 (fun x => x)) (fun x => x)
    have B5 := B5.drew
    have k05 := (k2.trans k3).trans k35
    have z5 : w5.drew.heap.size = w3.heap.size + 1 := z5
    generalize w5.drew = W at *
    have zP := P5.lt
    refine ⟨fun p => p.block < W.heap.size, q1, l1, c1, zP, (P5.cell 0).trans rfl, by omega, by omega, q1, l1, c1, zP, (P5.cell 0).trans rfl, by omega, by omega, fun w6 e6 => ?_⟩
    obtain ⟨q9, c9, w7, hr7, k7, q10, c10, w8, hr8, S8, k8⟩ := cutOut elemFault e6 (h1.chg k05) hc1 g (by omega) (by omega)
    have k6 := (Chg.refl none_ W).new' e6
    have B8 := k8.blk B5 (fun x => x)
    refine ⟨k6.keeps, q9, i, c9, w7, hr7, k7.keeps, q10, _, c10, w8, hr8, B8.canStore (by simp), fun w9 e9 => ?_⟩
    have B9 : Blk w9 w3.heap.size 28 #[.slice q10 (i + (l1 - (i + 1))) c10, .slice q6 l2 c6] := B8.sets' e9
    have k9 : Chg (fun k => k = w3.heap.size) w8 w9 := (Chg.refl _ w8).sets' e9 (.inl rfl)
    refine ⟨_, _, _, _, _, _, B9.reads0, fun w10 e10 => ?_⟩
    have k10 := (Chg.refl none_ w9).new' e10
    have k38 := k35.trans k8
    have k310 : Chg none_ w3 w10 := (k38.up k9 fun k hk => by omega).trans k10
    have k210 := k3.trans k310
    have S10 : SE En.t3 w10 (w.heap.size + 1) 37 q10 (i + (l1 - (i + 1))) c10 (er p.faults i) := ((S8.chg k9 fun g hg hk => SE.ne S8 B8 (by decide) g hg hk).chgN k10).lower (by have := k3.size; omega)
    obtain ⟨q13, c13, w11, hr11, O11, k11⟩ := (O2.chgN k210).push (x := ⟨q10, i + (l1 - (i + 1)), c10, q6, l2, c6⟩) (p := ⟨er p.faults i, p.crashes⟩) (new_blk e10) ⟨S10, ((D3.chgN k310).o).lower z2⟩ (by omega) (by have := k210.size; omega)
    have P10 := k210.blk P2 (fun x => x)
    refine ⟨q13, _, c13, w11, hr11, ⟨i + 1, by omega, g, by rw [smF_next]; exact O11, k11.blk P10 (fun e => by have := ((O2.chgN k210).lt e).2; omega), (k2.trans k210).up k11 fun k hk => by have := ((O2.chgN k210).lt hk).2; omega, by have := k210.size; have := k11.size; omega⟩, meas g⟩
  have : i = l1 := by simp at g; omega
  subst this
  clear g hi
  refine ⟨q2, l2, c2, (P2.cell0 1).trans rfl, fun q n c x w' => ∃ j : Nat, x = (j : Int) ∧ j ≤ l2 ∧ OutP w' (w.heap.size + 1) q n c (smF p i ++ smC p j) ∧ Blk w' w.heap.size 28 #[.slice q1 i c1, .slice q2 l2 c2] ∧ Chg none_ w w' ∧ w.heap.size + 1 ≤ w'.heap.size, fun _ _ _ x _ => l2 - x.toNat,
    ⟨0, rfl, Nat.zero_le _, by rw [show smC p 0 = [] from rfl, List.append_nil]; exact O2, P2, k2, z2⟩, ?_⟩
  clear O2 P2 k2 z2
  rintro q n c _ w2 ⟨j, rfl, hj, O2, P2, k2, z2⟩
  have en := O2.len
  rw [List.length_append, smF_len, smC_len] at en
  subst en
  refine bc (fun g => ?_) fun g => ?_
  · have g : j < l2 := by simpa using g
    rw [wS (by omega), tN1, tN]
    refine ⟨_, _, _, _, _, _, P2.reads0, Calls.use (copyD13 (h1.chg k2) (h2.chg k2) (by omega) (by omega)) ?_⟩
    rintro _ w3 ⟨q5, c5, q6, c6, rfl, S3, D3, k3⟩
    refine ⟨_, _, _, _, _, _, rfl, boxed rfl rfl fun w5 B5 k5 z5 => ?_⟩
    have k35 := k5.drew
    have P5 := k35.blk (k3.blk P2 (fun x => x)) (fun x => x)
    have B5 := B5.drew
    have k05 := (k2.trans k3).trans k35
    have z5 : w5.drew.heap.size = w3.heap.size + 1 := z5
    generalize w5.drew = W at *
    have zB := B5.lt
    obtain ⟨hs3, T3', hl3, hO3, hD3⟩ := (D3.chgN k35).ex
    have hle := T3'.le
    have hadd : ((⟨w3.heap.size, 0, none⟩ : Addr).add 1).block < W.heap.size := by rw [add_block]; exact zB
    refine ⟨fun p => p.block < W.heap.size, q6, l2, c6, hadd, (B5.cell0 1).trans rfl, by omega, by omega, q6, l2, c6, hadd, (B5.cell0 1).trans rfl, by omega, by omega, fun w6 e6 => ?_⟩
    obtain ⟨q9, c9, w7, hr7, k7, q10, c10, w8, hr8, S8, k8⟩ := cutOut elemCrash e6 T3'.re hle g (by omega) (by omega)
    have k6 := (Chg.refl none_ W).new' e6
    have B8 := k8.blk B5 (fun x => x)
    refine ⟨k6.keeps, q9, j, c9, w7, hr7, k7.keeps, q10, _, c10, w8, hr8, B8.canStore0 (show 1 + 1 ≤ 2 by decide), fun w9 e9 => ?_⟩
    have B9 : Blk w9 w3.heap.size 28 #[.slice q5 i c5, .slice q10 (j + (l2 - (j + 1))) c10] := B8.sets' e9
    have k9 : Chg (fun k => k = w3.heap.size) w8 w9 := (Chg.refl _ w8).sets' e9 (.inl rfl)
    refine ⟨_, _, _, _, _, _, B9.reads0, fun w10 e10 => ?_⟩
    have k10 := (Chg.refl none_ w9).new' e10
    have k38 := k35.trans k8
    have k310 : Chg none_ w3 w10 := (k38.up k9 fun k hk => by omega).trans k10
    have k210 := k3.trans k310
    have S10 : SE En.crh w10 (w.heap.size + 1) 42 q10 (j + (l2 - (j + 1))) c10 (er hs3 j) := ((S8.chg k9 fun g hg hk => SE.ne S8 B8 (by decide) g hg hk).chgN k10).lower (by have := k3.size; omega)
    have C10 : CrsO w10 (w.heap.size + 1) q10 (j + (l2 - (j + 1))) c10 (er p.crashes j) := ⟨er hs3 j, S10, er_len2 hl3, fun a b d hb hd => by
      obtain ⟨a', hb', hd'⟩ := er_two hl3 (by have := T3'.len; omega) hb hd
      have o := hO3 a' b d hb' hd'.1
      have o8 := o.2.2.1.chgN k8
      exact ⟨o.1, o.2.1, ((o8.chg k9 fun g hg hk => SE.ne o8 B8 (by decide) g hg hk).chgN k10).lower z2, o.2.2.2⟩⟩
    obtain ⟨q13, c13, w11, hr11, O11, k11⟩ := (O2.chgN k210).push (x := ⟨q5, i, c5, q10, j + (l2 - (j + 1)), c10⟩) (p := ⟨p.faults, er p.crashes j⟩) (new_blk e10) ⟨(S3.chgN k310).lower z2, C10⟩ (by omega) (by have := k210.size; omega)
    have P10 := k210.blk P2 (fun x => x)
    exact ⟨q13, _, c13, w11, hr11, ⟨j + 1, by omega, g, by rw [smC_next, ← List.append_assoc]; exact O11, k11.blk P10 (fun e => by have := ((O2.chgN k210).lt e).2; omega), (k2.trans k210).up k11 fun k hk => by have := ((O2.chgN k210).lt hk).2; omega, by have := k210.size; have := k11.size; omega⟩, meas g⟩
  have : j = l2 := by simp at g; omega
  subst this
  clear g hj
  refine ⟨q2, j, c2, (P2.cell0 1).trans rfl, fun q n c x w' => ∃ m : Nat, x = (m : Int) ∧ m ≤ j ∧ OutP w' (w.heap.size + 1) q n c (smF p i ++ smC p j ++ smX p m) ∧ Blk w' w.heap.size 28 #[.slice q1 i c1, .slice q2 j c2] ∧ Chg none_ w w' ∧ w.heap.size + 1 ≤ w'.heap.size, fun _ _ _ x _ => j - x.toNat,
    ⟨0, rfl, Nat.zero_le _, by rw [show smX p 0 = [] from rfl, List.append_nil]; exact O2, P2, k2, z2⟩, ?_⟩
  clear O2 P2 k2 z2
  rintro q n c _ w2 ⟨m, rfl, hm, O2, P2, k2, z2⟩
  refine bc (fun g => ?_) fun g => ?_
  · have g : m < j := by simpa using g
    obtain ⟨hs0, R0, hl0, H0⟩ := h2.ex
    obtain ⟨a, x, ha, hx, hr⟩ := (R0.chg k2).ex g
    obtain ⟨f, hf⟩ := get_ex (l := p.crashes) (i := m) (by omega)
    obtain ⟨e1, e2, hfa, hub, huc⟩ := H0 m x f hx hf
    have hle := smX_le hf
    have hfl := hfa.len
    refine onPtr_eq ha ⟨by omega, by omega, _, _, _, _, _, hr, boxed rfl rfl fun w4 B4 k4 z4 => ⟨_, _, _, (B4.cell0 2).trans rfl, ?_⟩⟩
    rw [wS (by omega)]
    refine ⟨fun q n c y w' => ∃ k : Nat, y = (k : Int) ∧ k ≤ x.l ∧ OutP w' (w.heap.size + 1) q n c (smF p i ++ smC p j ++ (smX p m ++ smK p m f k)) ∧ Blk w' w.heap.size 28 #[.slice q1 i c1, .slice q2 j c2] ∧ Blk w' w2.heap.size 42 #[.int .i64 x.step, .int .i64 x.rest, .slice x.q x.l x.c] ∧ Chg none_ w w' ∧ w2.heap.size + 1 ≤ w'.heap.size, fun _ _ _ y _ => x.l - y.toNat,
      ⟨0, rfl, Nat.zero_le _, by rw [show smK p m f 0 = [] from rfl, List.append_nil]; exact O2.chgN k4, k4.blk P2 (fun x => x), B4, k2.trans k4, by omega⟩, ?_⟩
    clear O2 P2 k2 hr
    rintro q n c _ w5 ⟨k, rfl, hk, O5, P5, C5, k5, z5'⟩
    have en := O5.len
    rw [List.length_append, List.length_append, List.length_append, smF_len, smC_len, smK_len] at en
    refine bc (fun g1 => ?_) fun g1 => ?_
    · have g1 : k < x.l := by simpa using g1
      rw [wS (by omega), tN1, tN]
      refine ⟨_, _, _, _, _, _, P5.reads0, Calls.use (copyD13 (h1.chg k5) (h2.chg k5) (by omega) (by omega)) ?_⟩
      rintro _ w6 ⟨q5, c5, q6, c6, rfl, S6, D6, k6⟩
      refine ⟨_, _, _, _, _, _, rfl, boxed rfl rfl fun w8 B8 k8 z8 => ?_⟩
      have k68 := k8.drew
      have C8 := k68.blk (k6.blk C5 (fun x => x)) (fun x => x)
      have B8 := B8.drew
      have k08 := (k5.trans k6).trans k68
      have z8 : w8.drew.heap.size = w6.heap.size + 1 := z8
      generalize w8.drew = W at *
      have zB := B8.lt
      have zC := C8.lt
      obtain ⟨hs6, T6, hl6, hO6, hD6⟩ := (D6.chgN k68).ex
      obtain ⟨x6, hx6⟩ := get_ex (l := hs6) (i := m) (by omega)
      obtain ⟨ex1, ex2, _, _⟩ := hO6 m x6 f hx6 hf
      have hB1 : ((⟨w6.heap.size, 0, none⟩ : Addr).add 1).block < W.heap.size := by rw [add_block]; exact zB
      have hC2 : ((⟨w2.heap.size, 0, none⟩ : Addr).add 2).block < W.heap.size := by rw [add_block]; exact zC
      refine ⟨fun p => p.block < W.heap.size, q6, j, c6, hB1, (B8.cell0 1).trans rfl, x.q, x.l, x.c, hC2, (C8.cell0 2).trans rfl, by omega, by omega, x.q, x.l, x.c, hC2, (C8.cell0 2).trans rfl, by omega, by omega, fun w9 e9 => ?_⟩
      obtain ⟨q9, c9, w10, hr10, k10, q11, c11, w11, hr11, S11, k11⟩ := cutOut elemFate e9 (hfa.chg k08) huc g1 hub (by omega)
      have k9 := (Chg.refl none_ W).new' e9
      have B11 := k11.blk B8 (fun x => x)
      have T11 := T6.chgN k11
      obtain ⟨b, hb, hcan⟩ := T11.can g
      subst hb
      refine ⟨k9.keeps, q9, k, c9, w10, hr10, k10.keeps, q11, _, c11, w11, hr11, k11.keeps, onPtr_mk ⟨by omega, by omega, hcan 2 1 (by decide), fun w12 e12 => ?_⟩⟩
      have hzW := (k5.trans k6).size
      have hD12 : Dst (hs6.set m ⟨x6.step, x6.rest, q11, k + (x.l - (k + 1)), c11⟩) := fun u v y z huv hy hz g hg e => by
        rcases set_cases hy with ⟨e1, e2⟩ | ⟨n1, hy'⟩ <;> rcases set_cases hz with ⟨e3, e4⟩ | ⟨n2, hz'⟩
        · omega
        · subst e2
          obtain ⟨cz, hcz⟩ := get_ex (l := p.crashes) (i := v) (by have := get_lt hz'; omega)
          have := ((hO6 v z cz hz' hcz).2.2.1.lt e).1
          have := (S11.lt hg).2
          omega
        · subst e4
          obtain ⟨cy, hcy⟩ := get_ex (l := p.crashes) (i := u) (by have := get_lt hy'; omega)
          have := ((hO6 u y cy hy' hcy).2.2.1.lt hg).1
          have := (S11.lt e).2
          omega
        · exact hD6 u v y z huv hy' hz' g hg e
      have hz6 := k6.size
      obtain ⟨D12, k12⟩ := crsSet T11 hl6 (fun u h c _ hh hc => (hO6 u h c hh hc).chg k11 fun _ _ x => x) hx6 hf ex1 ex2 (S11.lower (b := w5.heap.size) (by omega)) (by omega) hD12 e12
      have B12 := k12.blk B11 (fun e => SE.ne T11 B11 (by decide) _ e.symm rfl)
      have S6' := (S6.chgN (k68.trans k11)).chg k12 fun g hg hk => SE.ne2 (S6.chgN (k68.trans k11)) T11 (by decide) g hg hk
      refine ⟨_, _, _, _, _, _, B12.reads0, fun w13 e13 => ?_⟩
      have k13 := (Chg.refl none_ w12).new' e13
      have k513 : Chg none_ w5 w13 := ((k6.trans (k68.trans k11)).up k12 fun k hk => (T11.lt hk.symm).2).trans k13
      obtain ⟨q14, c14, w14, hr14, O14, k14⟩ := (O5.chgN k513).push (x := ⟨q5, i, c5, some b, j, c6⟩) (p := ⟨p.faults, p.crashes.set m (setF f (er f.fates k))⟩) (new_blk e13) ⟨(S6'.chgN k13).lower (by omega), ((D12.chgN k13).o).lower (by omega)⟩ (by omega) (by have := k513.size; omega)
      have P13 := k513.blk P5 (fun x => x)
      have C13 := k513.blk C5 (fun x => x)
      refine ⟨q14, _, c14, w14, hr14, ⟨k + 1, by omega, g1, by rw [smK_next, ← List.append_assoc (smX p m), ← List.append_assoc]; exact O14, k14.blk P13 (fun e => by have := ((O5.chgN k513).lt e).2; omega), k14.blk C13 ((O5.chgN k513).ne C13 (by decide)), (k5.trans k513).up k14 fun k hk => by have := ((O5.chgN k513).lt hk).2; omega, by have := k513.size; have := k14.size; omega⟩, meas g1⟩
    · have : k = x.l := by simp at g1; omega
      subst this
      refine ⟨⟨m + 1, by omega, g, by rw [smX_next hf, hfl]; exact O5, P5, k5, by omega⟩, meas g⟩
  have : m = j := by simp at g; omega
  subst this
  refine ⟨q, n, c, rfl, ?_, k2⟩
  unfold smL
  rw [el1, el2, ← List.append_assoc]
  exact O2
end Go.Proofs.YtdlbmmodlkmofaaDoor
