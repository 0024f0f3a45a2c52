import Derived.Test.YtglidaifbpjpgaaDoorStV
set_option maxRecDepth 20000
namespace Go.Proofs.YtglidaifbpjpgaaDoor
namespace Mo
open Go Go.Vc Go.RowKit
/-! # the strict way and the lax way tell the same of what may be -/
structure Eqk (m m' : Mv) : Prop where
  kind : m'.kind = m.kind
  val : m'.val = m.val
  err : m'.err = m.err
  hit : m'.hit = m.hit
  life : m'.life = m.life
  frm : m'.frm = m.frm
  too : m'.to = m.to
  key : 1 ≤ m.kind → m.kind ≤ 5 → m'.key = m.key
def EqL (l l' : List Mv) : Prop := l.length = l'.length ∧ ∀ (i : Nat) (a b : Mv), l[i]? = some a → l'[i]? = some b → Eqk a b
theorem EqL.nil : EqL [] [] := ⟨rfl, fun i a b h => by simp at h⟩
theorem EqL.app {a b a' b' : List Mv} (h : EqL a a') (k : EqL b b') : EqL (a ++ b) (a' ++ b') := by
  refine ⟨by simp [h.1, k.1], fun i x y hx hy => ?_⟩
  rcases Nat.lt_or_ge i a.length with hi | hi
  · rw [List.getElem?_append_left hi] at hx
    rw [List.getElem?_append_left (by rw [← h.1]; exact hi)] at hy
    exact h.2 i x y hx hy
  · rw [List.getElem?_append_right hi] at hx
    rw [List.getElem?_append_right (by rw [← h.1]; exact hi), ← h.1] at hy
    exact k.2 _ x y hx hy
theorem EqL.one {m m' : Mv} (h : Eqk m m') : EqL [m] [m'] := ⟨rfl, fun i a b ha hb => by
  cases i with
  | zero => simp at ha hb; subst ha; subst hb; exact h
  | succ i => simp at ha⟩
theorem EqL.set {l l' : List Mv} (h : EqL l l') (j : Nat) {m m' : Mv} (k : Eqk m m') : EqL (l.set j m) (l'.set j m') := by
  refine ⟨by simp [h.1], fun i a b ha hb => ?_⟩
  rw [List.getElem?_set] at ha hb
  split at ha
  · rename_i e
    rw [if_pos e] at hb
    split at ha
    · split at hb
      · cases ha; cases hb; exact k
      · cases hb
    · cases ha
  · rename_i e
    rw [if_neg e] at hb
    exact h.2 i a b ha hb
theorem EqL.eq {l l' : List Mv} (h : EqL l l') (hk : (∀ m ∈ l, 1 ≤ m.kind ∧ m.kind ≤ 5) ∨ (∀ m ∈ l', 1 ≤ m.kind ∧ m.kind ≤ 5)) : l' = l := by
  apply List.ext_getElem?
  intro i
  rcases Nat.lt_or_ge i l.length with hi | hi
  · obtain ⟨a, ha⟩ := get_ex hi
    obtain ⟨b, hb⟩ := get_ex (l := l') (i := i) (by rw [← h.1]; exact hi)
    have e := h.2 i a b ha hb
    have hr : 1 ≤ a.kind ∧ a.kind ≤ 5 := by
      rcases hk with hk | hk
      · exact hk a (List.mem_of_getElem? ha)
      · have := hk b (List.mem_of_getElem? hb); rw [e.kind] at this; exact this
    have hkey := e.key hr.1 hr.2
    rw [ha, hb]
    obtain ⟨e1, e2, e3, e4, e5, e6, e7, _⟩ := e
    cases a; cases b
    simp_all
  · rw [List.getElem?_eq_none hi, List.getElem?_eq_none (by rw [← h.1]; exact hi)]
theorem kp_same {k : Int} (h1 : 1 ≤ k) (h5 : k ≤ 5) : kpR k = kpP k := by
  have : ∀ n : Fin 6, 1 ≤ n.1 → kpR (n.1 : Int) = kpP (n.1 : Int) := by decide
  have h := this ⟨k.toNat, by omega⟩ (by show 1 ≤ k.toNat; omega)
  have e : ((k.toNat : Nat) : Int) = k := by omega
  simpa [e] using h
theorem beg_same (c : Cl) (life x : Int) : Eqk (begM kpP c life x) (begM kpR c life x) := by
  refine ⟨rfl, rfl, rfl, rfl, rfl, rfl, rfl, fun h1 h5 => ?_⟩
  show (if kpR c.kind then c.key else e0) = (if kpP c.kind then c.key else e0)
  rw [kp_same (k := c.kind) h1 h5]
theorem end_same {m m' : Mv} (h : Eqk m m') (x : Int) (a : An) : Eqk (endM m x a) (endM m' x a) :=
  ⟨h.kind, by show (if a.hit then a.val else m'.val) = (if a.hit then a.val else m.val); rw [h.val], rfl, rfl, h.life, h.frm, rfl, h.key⟩
structure Sim (s s' : S) : Prop where
  ss : s'.ss = s.ss
  last : s'.last = s.last
  lb : s'.lb = s.lb
  out : EqL s.out s'.out
/-- the other way -/
def lax (p : P) : P := ⟨false, kpR, p.life, p.base, p.steps, p.cs, p.as⟩
/-- the last begin stands where 'lb' says -/
def Lst (p : P) (s : S) : Prop := 0 ≤ s.last ∧ (0 ≤ s.lb → ∃ m, s.out[s.out.length - 1]? = some m ∧ m.frm = p.base + s.lb)
theorem oks_alone {ms : List Mv} (h : Oks ms ms.length) : ∀ m ∈ ms, Alone m := fun m hm => by
  obtain ⟨i, hi⟩ := List.getElem?_of_mem hm
  exact (h i m (get_lt hi) hi).alone
/-- two begins that do not rise -/
def NR (out : List Mv) : Prop := ∃ (i : Nat) (a b : Mv), out[i]? = some a ∧ out[i + 1]? = some b ∧ b.frm ≤ a.frm
theorem NR.app {a : List Mv} (h : NR a) (b : List Mv) : NR (a ++ b) := by
  obtain ⟨i, x, y, hx, hy, hl⟩ := h
  exact ⟨i, x, y, by rw [List.getElem?_append_left (get_lt hx)]; exact hx, by rw [List.getElem?_append_left (get_lt hy)]; exact hy, hl⟩
theorem NR.pre {b : List Mv} (h : NR b) (a : List Mv) : NR (a ++ b) := by
  obtain ⟨i, x, y, hx, hy, hl⟩ := h
  exact ⟨a.length + i, x, y, by rw [List.getElem?_append_right (by omega)]; simpa using hx, by rw [List.getElem?_append_right (by omega), show a.length + i + 1 - a.length = i + 1 by omega]; exact hy, hl⟩
theorem set_frm {l : List Mv} {j : Nat} {m m' : Mv} (hm : l[j]? = some m) (hf : m'.frm = m.frm) {i : Nat} {x : Mv} (hx : l[i]? = some x) : ∃ x', (l.set j m')[i]? = some x' ∧ x'.frm = x.frm := by
  rw [List.getElem?_set]
  split
  · rename_i e
    subst e
    rw [if_pos (get_lt hx)]
    rw [hm] at hx; cases hx
    exact ⟨_, rfl, hf⟩
  · exact ⟨x, hx, rfl⟩
theorem NR.set {l : List Mv} (h : NR l) {j : Nat} {m m' : Mv} (hm : l[j]? = some m) (hf : m'.frm = m.frm) : NR (l.set j m') := by
  obtain ⟨i, x, y, hx, hy, hl⟩ := h
  obtain ⟨x', hx', e1⟩ := set_frm hm hf hx
  obtain ⟨y', hy', e2⟩ := set_frm hm hf hy
  exact ⟨i, x', y', hx', hy', by omega⟩
theorem NR.bad {out : List Mv} (h : NR out) (hc : Chk out 0 0) : False := by
  obtain ⟨i, a, b, ha, hb, hl⟩ := h
  have ho := hc.alive.2
  have := ((ho (i + 1) b (get_lt hb) hb).prev i a rfl ha).2
  omega
theorem step_both {p : P} {s s' : S} {e : Ev} (hs : Sim s s') (hp : p.kp = kpP) :
    (∀ t, stepX p s e = some t → ∃ t', stepX (lax p) s' e = some t' ∧ Sim t t') ∧
    (∀ t', stepX (lax p) s' e = some t' → Lst p s' → ((∃ t, stepX p s e = some t ∧ Sim t t' ∧ Lst p t') ∨ NR t'.out)) := by
  have e1 : (lax p).steps = p.steps := rfl
  have e2 : (lax p).cs = p.cs := rfl
  have e3 : (lax p).as = p.as := rfl
  unfold stepX
  rw [e1, e2, e3, hs.ss, hs.last]
  by_cases h0 : e.step < s.last ∨ e.step ≥ p.steps ∨ e.task < 0
  · rw [if_pos h0, if_pos h0]
    exact ⟨(fun t h => by cases h), (fun t h => by cases h)⟩
  rw [if_neg h0, if_neg h0]
  cases h1 : s.ss[e.task.toNat]? with
  | none => exact ⟨(fun t h => by cases h), (fun t h => by cases h)⟩
  | some x =>
  obtain ⟨n, cur⟩ := x
  cases h2 : p.cs[e.task.toNat]? with
  | none => exact ⟨(fun t h => by cases h), (fun t h => by cases h)⟩
  | some calls =>
  cases h3 : p.as[e.task.toNat]? with
  | none => exact ⟨(fun t h => by cases h), (fun t h => by cases h)⟩
  | some anss =>
  simp only
  unfold stepC
  by_cases h4 : e.call ≠ n
  · rw [if_pos h4, if_pos h4]
    exact ⟨(fun t h => by cases h), (fun t h => by cases h)⟩
  rw [if_neg h4, if_neg h4]
  cases h5 : calls[n]? with
  | none => exact ⟨(fun t h => by cases h), (fun t h => by cases h)⟩
  | some c =>
  have hol := hs.out.1
  cases hr : e.ret <;> cases cur
  · simp only
    have hl : ¬ ((lax p).strict = true ∧ e.step ≤ s'.lb) := by simp [lax]
    rw [if_neg hl]
    have hsim : Sim ⟨s.ss.set e.task.toNat (n, some s.out.length), s.out ++ [begM p.kp c p.life (p.base + e.step)], e.step, e.step⟩ ⟨s'.ss.set e.task.toNat (n, some s'.out.length), s'.out ++ [begM (lax p).kp c (lax p).life ((lax p).base + e.step)], e.step, e.step⟩ :=
      ⟨by rw [hs.ss, hol], rfl, rfl, hs.out.app (EqL.one (by rw [hp]; exact beg_same c p.life (p.base + e.step)))⟩
    constructor
    · intro t h
      split at h
      · cases h
      · cases h
        exact ⟨_, rfl, hsim⟩
    · intro t' h hL
      cases h
      by_cases hg : e.step ≤ s.lb
      · right
        obtain ⟨m, hm, hf⟩ := hL.2 (by have := hL.1; rw [hs.last] at this; rw [hs.lb]; omega)
        have hlt := get_lt hm
        refine ⟨s'.out.length - 1, m, begM (lax p).kp c (lax p).life ((lax p).base + e.step), by rw [List.getElem?_append_left hlt]; exact hm, ?_, ?_⟩
        · rw [List.getElem?_append_right (by omega), show s'.out.length - 1 + 1 - s'.out.length = 0 by omega]; rfl
        · rw [hf, hs.lb]; show p.base + e.step ≤ p.base + s.lb; omega
      · left
        rw [if_neg (by omega)]
        refine ⟨_, rfl, hsim, by show 0 ≤ e.step; have := hL.1; rw [hs.last] at this; omega, fun _ => ⟨begM (lax p).kp c (lax p).life ((lax p).base + e.step), ?_, rfl⟩⟩
        simp
  · exact ⟨(fun t h => by cases h), (fun t h => by cases h)⟩
  · exact ⟨(fun t h => by cases h), (fun t h => by cases h)⟩
  · rename_i j
    simp only
    cases h6 : anss[n]? with
    | none => exact ⟨(fun t h => by cases h), (fun t h => by cases h)⟩
    | some a =>
    cases h7 : s.out[j]? with
    | none =>
      have h8 : s'.out[j]? = none := by
        rw [List.getElem?_eq_none_iff] at h7 ⊢; omega
      rw [h8]
      exact ⟨(fun t h => by cases h), (fun t h => by cases h)⟩
    | some m =>
      obtain ⟨m', h8⟩ := get_ex (l := s'.out) (i := j) (by have := get_lt h7; omega)
      rw [h8]
      have hm := hs.out.2 j m m' h7 h8
      have hsim : Sim ⟨s.ss.set e.task.toNat (n + 1, none), s.out.set j (endM m (p.base + e.step) a), e.step, s.lb⟩ ⟨s'.ss.set e.task.toNat (n + 1, none), s'.out.set j (endM m' ((lax p).base + e.step) a), e.step, s'.lb⟩ :=
        ⟨by rw [hs.ss], rfl, hs.lb, hs.out.set j (end_same hm (p.base + e.step) a)⟩
      constructor
      · intro t h
        cases h
        exact ⟨_, rfl, hsim⟩
      · intro t' h hL
        cases h
        refine .inl ⟨_, rfl, hsim, by show 0 ≤ e.step; have := hL.1; rw [hs.last] at this; omega, fun hlb => ?_⟩
        obtain ⟨x, hx, hf⟩ := hL.2 hlb
        obtain ⟨x', hx', e'⟩ := set_frm h8 (m' := endM m' ((lax p).base + e.step) a) rfl hx
        exact ⟨x', by rw [List.length_set]; exact hx', by rw [e']; exact hf⟩
theorem step_nr {p : P} {s t : S} {e : Ev} (h : stepX p s e = some t) (hn : NR s.out) : NR t.out := by
  unfold stepX at h
  split at h
  · cases h
  · split at h
    · rename_i n cur calls anss h1 h2 h3
      unfold stepC at h
      split at h
      · cases h
      · split at h
        · cases h
        · split at h
          · split at h
            · cases h
            · cases h; exact hn.app _
          · split at h
            · rename_i a m h6 h7
              cases h
              exact hn.set h7 rfl
            · cases h
          · cases h
    · cases h
theorem run_both {p : P} (hp : p.kp = kpP) : ∀ (es : List Ev) {s s' : S}, Sim s s' →
    (∀ t, runX p es s = some t → ∃ t', runX (lax p) es s' = some t' ∧ Sim t t') ∧
    (∀ t', runX (lax p) es s' = some t' → Lst p s' → ((∃ t, runX p es s = some t ∧ Sim t t') ∨ NR t'.out))
  | [], s, s', hs => ⟨fun t h => by cases h; exact ⟨_, rfl, hs⟩, fun t h _ => by cases h; exact .inl ⟨_, rfl, hs⟩⟩
  | e :: es, s, s', hs => by
    obtain ⟨h1, h2⟩ := step_both (e := e) hs hp
    constructor
    · intro t h
      rw [runX] at h
      cases hst : stepX p s e with
      | none => rw [hst] at h; cases h
      | some u =>
        rw [hst] at h
        obtain ⟨u', hu', hsu⟩ := h1 u hst
        obtain ⟨t', ht', hst'⟩ := (run_both hp es hsu).1 t h
        exact ⟨t', by rw [runX, hu']; exact ht', hst'⟩
    · intro t' h hL
      rw [runX] at h
      cases hst : stepX (lax p) s' e with
      | none => rw [hst] at h; cases h
      | some u' =>
        rw [hst] at h
        rcases h2 u' hst hL with ⟨u, hu, hsu, hLu⟩ | hn
        · rcases (run_both hp es hsu).2 t' h hLu with ⟨t, ht, hst'⟩ | hn
          · exact .inl ⟨t, by rw [runX, hu]; exact ht, hst'⟩
          · exact .inr hn
        · refine .inr ?_
          have : ∀ (es : List Ev) (u t : S), runX (lax p) es u = some t → NR u.out → NR t.out := fun es => by
            induction es with
            | nil => intro u t h hn; cases h; exact hn
            | cons e es ih =>
              intro u t h hn
              rw [runX] at h
              cases hst : stepX (lax p) u e with
              | none => rw [hst] at h; cases h
              | some v => rw [hst] at h; exact ih v t h (step_nr hst hn)
          exact this es u' t' h hn
theorem life_both {p : P} (hp : p.kp = kpP) (es : List Ev) :
    (∀ o, lifeX p es = some o → ∃ o', lifeX (lax p) es = some o' ∧ EqL o o') ∧
    (∀ o', lifeX (lax p) es = some o' → ((∃ o, lifeX p es = some o ∧ EqL o o') ∨ NR o')) := by
  have e1 : (lax p).steps = p.steps := rfl
  have e2 : (lax p).cs = p.cs := rfl
  have e3 : (lax p).as = p.as := rfl
  obtain ⟨h1, h2⟩ := run_both hp es (s := S0 p.cs.length) (s' := S0 p.cs.length) ⟨rfl, rfl, rfl, EqL.nil⟩
  have hL : Lst p (S0 p.cs.length) := ⟨Int.le_refl _, fun h => by simp [S0] at h⟩
  unfold lifeX
  rw [e1, e2, e3]
  by_cases h0 : p.steps < 0 ∨ p.steps > 1048576 ∨ p.as.length ≠ p.cs.length
  · rw [if_pos h0, if_pos h0]
    exact ⟨(fun t h => by cases h), (fun t h => by cases h)⟩
  rw [if_neg h0, if_neg h0]
  constructor
  · intro o h
    cases hr : runX p es (S0 p.cs.length) with
    | none => rw [hr] at h; cases h
    | some t =>
      rw [hr] at h
      obtain ⟨t', ht', hs⟩ := h1 t hr
      rw [ht']
      simp only at h ⊢
      rw [hs.ss]
      split at h
      · rename_i hd
        cases h
        exact ⟨_, by rw [if_pos hd], hs.out⟩
      · cases h
  · intro o' h
    cases hr : runX (lax p) es (S0 p.cs.length) with
    | none => rw [hr] at h; cases h
    | some t' =>
      rw [hr] at h
      simp only at h
      split at h
      · rename_i hd
        cases h
        rcases h2 t' hr hL with ⟨t, ht, hs⟩ | hn
        · refine .inl ⟨t.out, ?_, hs.out⟩
          rw [ht]
          simp only
          rw [← hs.ss, if_pos hd]
        · exact .inr hn
      · cases h
theorem all_both : ∀ (zs : List (List (List Cl) × Tl)) (i b : Int),
    (∀ o, allX true kpP zs i b = some o → ∃ o', allX false kpR zs i b = some o' ∧ EqL o o') ∧
    (∀ o', allX false kpR zs i b = some o' → ((∃ o, allX true kpP zs i b = some o ∧ EqL o o') ∨ NR o'))
  | [], i, b => ⟨fun o h => by cases h; exact ⟨_, rfl, EqL.nil⟩, fun o h => by cases h; exact .inl ⟨_, rfl, EqL.nil⟩⟩
  | z :: zs, i, b => by
    obtain ⟨h1, h2⟩ := life_both (p := ⟨true, kpP, i, b, z.2.steps, z.1, z.2.an⟩) rfl z.2.es
    obtain ⟨g1, g2⟩ := all_both zs (i + 1) (b + z.2.steps)
    have el : lax ⟨true, kpP, i, b, z.2.steps, z.1, z.2.an⟩ = ⟨false, kpR, i, b, z.2.steps, z.1, z.2.an⟩ := rfl
    rw [el] at h1 h2
    rw [allX, allX]
    constructor
    · intro o h
      cases hl : lifeX ⟨true, kpP, i, b, z.2.steps, z.1, z.2.an⟩ z.2.es with
      | none => rw [hl] at h; cases h
      | some a =>
        obtain ⟨a', ha', ea⟩ := h1 a hl
        rw [hl] at h
        cases hr : allX true kpP zs (i + 1) (b + z.2.steps) with
        | none => rw [hr] at h; cases h
        | some r =>
          obtain ⟨r', hr', er⟩ := g1 r hr
          rw [hr] at h
          cases h
          exact ⟨a' ++ r', by rw [ha', hr']; rfl, ea.app er⟩
    · intro o' h
      cases hl : lifeX ⟨false, kpR, i, b, z.2.steps, z.1, z.2.an⟩ z.2.es with
      | none => rw [hl] at h; cases h
      | some a' =>
        rw [hl] at h
        cases hr : allX false kpR zs (i + 1) (b + z.2.steps) with
        | none => rw [hr] at h; cases h
        | some r' =>
          rw [hr] at h
          cases h
          rcases h2 a' hl with ⟨a, ha, ea⟩ | hn
          · rcases g2 r' hr with ⟨r, hr2, er⟩ | hn
            · exact .inl ⟨a ++ r, by rw [ha, hr2]; rfl, ea.app er⟩
            · exact .inr (hn.pre _)
          · exact .inr (hn.app _)
/-- the two ways tell the same history, or both tell none -/
theorem both_tell {zs : List (List (List Cl) × Tl)} {o : List Mv} : (allX true kpP zs 0 0 = some o ∧ Chk o 0 0) ↔ (allX false kpR zs 0 0 = some o ∧ Chk o 0 0) := by
  obtain ⟨h1, h2⟩ := all_both zs 0 0
  have kinds : Chk o 0 0 → ∀ m ∈ o, 1 ≤ m.kind ∧ m.kind ≤ 5 := fun hc m hm => by
    have := (oks_alone hc.alive.2) m hm
    exact ⟨this.k1, this.k2⟩
  constructor
  · rintro ⟨h, hc⟩
    obtain ⟨o', ho', e⟩ := h1 o h
    rw [e.eq (.inl (kinds hc))] at ho'
    exact ⟨ho', hc⟩
  · rintro ⟨h, hc⟩
    rcases h2 o h with ⟨o', ho', e⟩ | hn
    · have := e.eq (.inr (kinds hc))
      subst this
      exact ⟨ho', hc⟩
    · exact (hn.bad hc).elim
def Tells (strict : Bool) (kp : Int → Bool) (css : List (List (List Cl))) (ts : List Tl) (out : List Mv) : Prop := css.length = ts.length ∧ allX strict kp (css.zip ts) 0 0 = some out ∧ Chk out 0 0
theorem tells_iff {css : List (List (List Cl))} {ts : List Tl} {out : List Mv} : Tells true kpP css ts out ↔ Tells false kpR css ts out := by
  unfold Tells
  have := both_tell (zs := css.zip ts) (o := out)
  exact ⟨fun ⟨h1, h2⟩ => ⟨h1, this.1 h2⟩, fun ⟨h1, h2⟩ => ⟨h1, this.2 h2⟩⟩
theorem Tells.eq {s : Bool} {kp : Int → Bool} {css : List (List (List Cl))} {ts : List Tl} {a b : List Mv} (h : Tells s kp css ts a) (k : Tells s kp css ts b) : a = b := Option.some.inj (h.2.1.symm.trans k.2.1)
/-- what is told: a history and no error, or nothing and the error -/
def Out (s : Bool) (kp : Int → Bool) (css : List (List (List Cl))) (ts : List Tl) (out : List Mv) (e : Int) : Prop := (e = 0 ∧ Tells s kp css ts out) ∨ (e = 240 ∧ out = [] ∧ ∀ o, ¬ Tells s kp css ts o)
theorem Out.both {css : List (List (List Cl))} {ts : List Tl} {a b : List Mv} {e f : Int} (h : Out true kpP css ts a e) (k : Out false kpR css ts b f) : a = b ∧ e = f := by
  rcases h with ⟨rfl, h⟩ | ⟨rfl, rfl, h⟩ <;> rcases k with ⟨rfl, k⟩ | ⟨rfl, rfl, k⟩
  · exact ⟨(tells_iff.1 h).eq k, rfl⟩
  · exact absurd (tells_iff.1 h) (k _)
  · exact absurd (tells_iff.2 k) (h _)
  · exact ⟨rfl, rfl⟩
theorem Out.same {s : Bool} {kp : Int → Bool} {css : List (List (List Cl))} {ts : List Tl} {a b : List Mv} {e f : Int} (h : Out s kp css ts a e) (k : Out s kp css ts b f) : a = b ∧ e = f := by
  rcases h with ⟨rfl, h⟩ | ⟨rfl, rfl, h⟩ <;> rcases k with ⟨rfl, k⟩ | ⟨rfl, rfl, k⟩
  · exact ⟨h.eq k, rfl⟩
  · exact absurd h (k _)
  · exact absurd k (h _)
  · exact ⟨rfl, rfl⟩
theorem MovR.uni {s : Bool} {kp : Int → Bool} {css : List (List (List Cl))} {ts : List Tl} {w w' : World} {v : Value} (h : MovR s kp css ts w v w') :
    Chg none_ w w' ∧ ∃ q l c out e, v = .tuple #[.slice q l c, .int .i64 e] ∧ SE En.mv w' w.heap.size 96 q l c out ∧ l ≤ 4096 ∧ Out s kp css ts out e := by
  obtain ⟨k, ⟨q, l, c, out, rfl, h1, h2, h3, h4⟩ | ⟨rfl, h1⟩⟩ := h
  · exact ⟨k, q, l, c, out, 0, rfl, h1, by have := h4.alive.1; have := h1.len; omega, .inl ⟨rfl, h2, h3, h4⟩⟩
  · exact ⟨k, none, 0, 0, [], 240, rfl, SE.nil _ _ _ _, by omega, .inr ⟨rfl, rfl, fun o ho => h1 ⟨ho.1, o, ho.2⟩⟩⟩
theorem Blk.part {w : World} {b : Nat} {t : TypeId} {cs : Array Value} (h : Blk w b t cs) {pre vs post : List Value} (e : cs.toList = pre ++ (vs ++ post)) {n : Nat} (hn : n = pre.length) : reads w ((⟨b, 0, none⟩ : Addr).add n) vs := fun j v hj => by
  subst hn
  rw [Addr.add_add, h.cell0, ← Array.getElem?_toList, e, List.getElem?_append_right (by omega), show pre.length + j - pre.length = j by omega, List.getElem?_append_left (get_lt hj)]
  exact hj
theorem Blk.part0 {w : World} {b : Nat} {t : TypeId} {cs : Array Value} (h : Blk w b t cs) {vs post : List Value} (e : cs.toList = vs ++ post) : reads w (⟨b, 0, none⟩ : Addr) vs := by
  have := Blk.part h (pre := []) (vs := vs) (post := post) (n := 0) e rfl
  rwa [add_zero'] at this
end Mo
end Go.Proofs.YtglidaifbpjpgaaDoor
