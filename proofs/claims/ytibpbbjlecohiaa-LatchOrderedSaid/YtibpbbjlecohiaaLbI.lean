import Derived.Test.YtibpbbjlecohiaaLbD
set_option maxRecDepth 20000
namespace Go.Proofs.Ytibpbbjlecohiaa
namespace Full
open Go Go.Vc Go.RowKit
section
variable {w w' : World} {base N Q o : Nat} {g : G8} {s : S8}
theorem InvG.mrow_at (h : InvG w base N Q o g s) {i : Nat} {mx : Mx} (hmx : s.ms[i]? = some mx) : ∃ (a : Addr) (hd : Hd), g.qm = some a ∧ g.hs[i]? = some ⟨mx.owner, hd⟩ ∧ SE En.wt w base 106 hd.1 hd.2.1 hd.2.2 mx.queue ∧
    w.cell? (a.add (i * 2)) = some (.int .i64 mx.owner) ∧ w.cell? ((a.add (i * 2)).add 1) = some (.slice hd.1 hd.2.1 hd.2.2) := by
  have hil := get_lt hmx
  obtain ⟨hx, hhx⟩ := get_ex (l := g.hs) (i := i) (by rw [h.mx.len]; exact hil)
  have hown : hx.owner = mx.owner := by
    have a1 := map_at (f := MxH.owner) hhx
    rw [h.own, map_at (f := Mx.owner) hmx] at a1
    exact (Option.some.inj a1).symm
  obtain ⟨a, y, ha, hy, hr⟩ := h.mx.re.ex (i := i) hil
  rw [hhx] at hy; cases hy
  obtain ⟨ho, hd⟩ := hx
  simp only at hown
  subst hown
  have c0 := reads_at hr (i := 0) rfl
  have c1 := reads_at hr (i := 1) rfl
  rw [add_zero'] at c0
  exact ⟨a, hd, ha, hhx, h.que.se i hd mx.queue (app_at (map_at (f := MxH.hd) hhx)) (app_at (map_at (f := Mx.queue) hmx)), c0, c1⟩
theorem mcan {l c : Nat} {hs : List MxH} {a : Addr} (S : SE En.mxh w base 97 (some a) l c hs) {i : Nat} (hi : i < l) : canStore w (a.add (i * 2)) 1 ∧ canStore w ((a.add (i * 2)).add 1) 1 := by
  obtain ⟨a', ha', hcan⟩ := S.can hi
  cases ha'
  have hc0 := hcan 0 1 (by decide)
  rw [add_zero'] at hc0
  exact ⟨hc0, hcan 1 1 (by decide)⟩
theorem InvG.lrow_at (h : InvG w base N Q o g s) {i : Nat} {lx : Lk} (hlx : s.ls[i]? = some lx) : ∃ (a : Addr) (hr hd : Hd), g.q2 = some a ∧ g.lh[i]? = some ⟨hr, lx.writer, hd⟩ ∧ SE En.wt w base 106 hd.1 hd.2.1 hd.2.2 lx.queue ∧ SE En.int w base 3 hr.1 hr.2.1 hr.2.2 lx.readers ∧
    w.cell? (a.add (i * 3)) = some (.slice hr.1 hr.2.1 hr.2.2) ∧ w.cell? ((a.add (i * 3)).add 1) = some (.int .i64 lx.writer) ∧ w.cell? ((a.add (i * 3)).add 2) = some (.slice hd.1 hd.2.1 hd.2.2) := by
  have hil := get_lt hlx
  obtain ⟨hx, hhx⟩ := get_ex (l := g.lh) (i := i) (by rw [h.lk.len]; exact hil)
  have hw : hx.writer = lx.writer := by
    have a1 := map_at (f := LkH.writer) hhx
    rw [h.wri, map_at (f := Lk.writer) hlx] at a1
    exact (Option.some.inj a1).symm
  obtain ⟨a, y, ha, hy, hr⟩ := h.lk.re.ex (i := i) hil
  rw [hhx] at hy; cases hy
  have hq := h.lq_at hhx hlx
  have hrs := h.rds.se i hx.readers lx.readers (map_at (f := LkH.readers) hhx) (map_at (f := Lk.readers) hlx)
  obtain ⟨hr', ho, hd⟩ := hx
  simp only at hw
  subst hw
  have c0 := reads_at hr (i := 0) rfl
  have c1 := reads_at hr (i := 1) rfl
  have c2 := reads_at hr (i := 2) rfl
  rw [add_zero'] at c0
  exact ⟨a, hr', hd, ha, hhx, h.que.se _ hd lx.queue hq.1 hq.2, hrs, c0, c1, c2⟩
theorem lcan {l c : Nat} {lh : List LkH} {a : Addr} (S : SE En.lkh w base 99 (some a) l c lh) {i : Nat} (hi : i < l) : canStore w (a.add (i * 3)) 1 ∧ canStore w ((a.add (i * 3)).add 1) 1 ∧ canStore w ((a.add (i * 3)).add 2) 1 := by
  obtain ⟨a', ha', hcan⟩ := S.can hi
  cases ha'
  have hc0 := hcan 0 1 (by decide)
  rw [add_zero'] at hc0
  exact ⟨hc0, hcan 1 1 (by decide), hcan 2 1 (by decide)⟩
theorem asks44 (h : InvG w base N Q o g s) {q : Option Addr} {l c : Nat} {ps : List (Int × Int)} (task : Int) (G : RE En.i2 w q l ps) (hl : l ≤ 9223372036854775807) :
    Calls Try.prog 44 #[.pointer (some (ad o)), .int .i64 task, .slice q l c] w (Ret fun v w' => v = .int .i64 (askL task ps s.wt) ∧ Chg none_ w w') := by
  refine f44.calls _ _ _ _ _ ?_
  unfold f44.wp
  have hlen := G.len
  refine ⟨fun x w' => x = false ∧ w = w', ?_, ptrOk_none _ _, bcF rfl (onPtr_mk ⟨_, (h.obj.cell0 4).trans rfl, _, w, run_eqmap Try.underlying87 g.m w, rfl, rfl⟩)⟩
  rintro _ _ ⟨rfl, rfl⟩
  refine bcF rfl (bc (fun h => ⟨?_, Chg.refl _ _⟩) (fun h0 => bc (fun h => ⟨?_, Chg.refl _ _⟩) (fun h1 => ?_)))
  · have h := of_decide_eq_true h
    rw [askL, if_pos (.inl h)]
  · have h := of_decide_eq_true h
    rw [askL, if_pos (.inr h)]
  have h0 := of_decide_eq_false h0
  have h1 := of_decide_eq_false h1
  have e1 : askL task ps s.wt = if badN ps then 80 else if (s.wt task).isSome then 83 else 0 := by rw [askL, if_neg (by omega)]
  refine ⟨fun x w' => ∃ i : Nat, x = i ∧ i ≤ l ∧ Chg none_ w w' ∧ ∀ (j : Nat) p, j < i → ps[j]? = some p → ¬ (p.1 < 0 ∨ p.2 ≤ p.1), fun x _ => l - x.toNat, ⟨0, rfl, Nat.zero_le _, Chg.refl _ _, fun j p hj => by omega⟩, ?_⟩
  rintro x w3 ⟨i, rfl, hi, k3, hin⟩
  refine bc (fun hlt => ?_) (fun hge => ?_)
  · have hi' : i < l := by simpa using hlt
    obtain ⟨a, p, rfl, hp, hr⟩ := (G.chg k3).ex hi'
    rw [wrapS (x := (i : Int) + 1) (by omega) (by omega)]
    refine onPtr_mk ⟨by omega, by omega, _, _, hr, boxed rfl rfl fun w5 B5 k5 _ => ⟨by decide, by decide, _, (B5.cell 0).trans rfl, ?_⟩⟩
    have k35 := k3.trans k5
    refine bc (fun h => ⟨?_, k35⟩) (fun h2 => ⟨by decide, by decide, _, (B5.cell 0).trans rfl, by decide, by decide, _, (B5.cell0 1).trans rfl, bc (fun h => ⟨?_, k35⟩) (fun h3 => ⟨⟨i + 1, by omega, hi', k35, fun j p' hj hp' => ?_⟩, meas hi'⟩)⟩)
    · have h := of_decide_eq_true h
      rw [e1, if_pos (badN_at hp (.inl h))]
    · have h := of_decide_eq_true h
      rw [e1, if_pos (badN_at hp (.inr h))]
    · rcases Nat.lt_or_ge j i with h4 | h4
      · exact hin j p' h4 hp'
      · have : j = i := by omega
        subst this
        rw [hp] at hp'; cases hp'
        have := of_decide_eq_false h2; have := of_decide_eq_false h3; omega
  · have hge : ¬ i < l := by simpa using hge
    have hb : badN ps = false := badN_no fun j p hp => hin j p (by have := get_lt hp; omega) hp
    have M3 := h.wts.chg k3 (fun x => x)
    have hlook := M3.look (t := 87) (e := 47) key3 Try.underlying87 zeroW3 (x := task) (by simp [ok64, Lit.wf, IntKind.min, IntKind.max, IntKind.signed, IntKind.bits]; omega)
    refine onPtr_mk ⟨_, ((k3.blk h.obj (fun x => x)).cell0 4).trans rfl, _, _, _, _, w3, hlook, boxed rfl rfl fun w8 B8 k8 _ => ?_⟩
    rw [e1, hb]
    refine bc (fun h => ⟨by simp [h], k3.trans k8⟩) (fun h => ⟨by simp [h], k3.trans k8⟩)
theorem askL_ok {task : Int} {ps : List (Int × Int)} {wt : Int → Option W3} (h : askL task ps wt = 0) : 0 ≤ task ∧ task < 16 ∧ badN ps = false ∧ wt task = none := by
  unfold askL at h
  split at h
  · cases h
  · split at h
    · cases h
    · split at h
      · cases h
      · rename_i h1 h2 h3
        exact ⟨by omega, by omega, by simpa using h2, by simpa using h3⟩
theorem badN_one {n b : Int} (h : badN [(n, b)] = false) : 0 ≤ n ∧ n < b := by
  simp [badN] at h
  omega
theorem ok64_task {task : Int} (h0 : 0 ≤ task) (h1 : task < 16) : ok64 task := by simp [ok64, Lit.wf, IntKind.min, IntKind.max, IntKind.signed, IntKind.bits]; omega
theorem wait45 (h : InvG w base N Q o g s) (hN : N ≤ 4000000000000000000) {task : Int} (ht : ok64 task) (kind n : Int) :
    Calls Try.prog 45 #[.pointer (some (ad o)), .int .i64 task, .int .i64 kind, .int .i64 n] w (Ret fun v w' => v = .tuple #[] ∧ ∃ g', InvG w' base (N + 1) Q o g' { s with wt := updF s.wt task (some (task, kind, n)) } ∧ Stp o w g w' g') := by
  refine f45.calls _ _ _ _ ?_
  unfold f45.wp
  have hn := h.hn
  obtain ⟨w', hrun, M', kk⟩ := h.wts.update (t := 87) (e := 47) key3 Try.underlying87 (by simp only [maxLen]; omega) ht (task, kind, n)
  obtain ⟨I, st⟩ := h.wt' (N' := N + 1) kk M' (by omega)
  exact onPtr_mk ⟨_, (h.obj.cell0 4).trans rfl, w', hrun, rfl, _, I, st⟩
/-- Lock -/
def lockF (s : S8) (task n : Int) : Bool × Int × S8 :=
  if askL task [(n, s.ms.length)] s.wt ≠ 0 then (false, askL task [(n, s.ms.length)] s.wt, s) else
  match s.ms[n.toNat]? with
  | none => (false, 0, s)
  | some m => if m.owner = task then (false, 81, s) else if m.owner = -1 then (true, 0, { s with ms := s.ms.set n.toNat ⟨task, m.queue⟩ }) else
    (false, 0, { s with ms := s.ms.set n.toNat ⟨m.owner, m.queue ++ [⟨task, false, 0⟩]⟩, wt := updF s.wt task (some (task, 1, n)) })
theorem lock18 (h : InvG w base N Q o g s) (hN : N ≤ 4000000000000000000) (hQ : Q ≤ 4398046511104) (task n : Int) :
    Calls Try.prog 18 #[.pointer (some (ad o)), .int .i64 task, .int .i64 n] w (Ret fun v w' => v = .tuple #[.bool (lockF s task n).1, .int .i64 (lockF s task n).2.1] ∧ ∃ g', InvG w' base (N + 1) (Q + 1) o g' (lockF s task n).2.2 ∧ Stp o w g w' g') := by
  refine f18.calls _ _ _ ?_
  unfold f18.wp
  refine Calls.use (sizes43 h) ?_
  rintro _ w1 ⟨rfl, k1⟩
  refine ⟨_, _, _, _, rfl, newBox fun w2 B2 k2 _ => Calls.use (asks44 ((h.chgN k1).chgN k2) task (RE.of_flat (xs := [(n, (s.ms.length : Int))]) rfl B2.reads0) (by decide)) ?_⟩
  rintro _ w3 ⟨rfl, k3⟩
  have k03 := k1.trans (k2.trans k3)
  have h3 := h.chgN k03
  have L03 : Stp o w g w3 g := Stp.ofN k03
  refine ⟨_, rfl, bc (fun he => ?_) (fun he => ?_)⟩
  · have he : askL task [(n, s.ms.length)] s.wt ≠ 0 := by simpa using he
    have e : lockF s task n = (false, askL task [(n, s.ms.length)] s.wt, s) := by rw [lockF, if_pos he]
    rw [e]
    exact ⟨rfl, g, h3.up (by omega) (by omega), L03⟩
  have he : askL task [(n, s.ms.length)] s.wt = 0 := by simpa using he
  obtain ⟨t0, t1, hbad, hw⟩ := askL_ok he
  obtain ⟨n0, n1⟩ := badN_one hbad
  obtain ⟨i, rfl⟩ : ∃ i : Nat, n = i := ⟨n.toNat, by omega⟩
  obtain ⟨mx, hmx⟩ := get_ex (l := s.ms) (i := i) (by omega)
  have hil := get_lt hmx
  have e0 : lockF s task i = if mx.owner = task then (false, 81, s) else if mx.owner = -1 then (true, 0, { s with ms := s.ms.set i ⟨task, mx.queue⟩ }) else (false, 0, { s with ms := s.ms.set i ⟨mx.owner, mx.queue ++ [⟨task, false, 0⟩]⟩, wt := updF s.wt task (some (task, 1, (i : Int))) }) := by
    unfold lockF
    rw [if_neg (by simp [he]), Int.toNat_natCast, hmx]
  have ht64 := ok64_task t0 t1
  obtain ⟨a, hd, ha, hhx, Qe, c0, c1⟩ := h3.mrow_at hmx
  have et : ((i : Int)).toNat = i := by omega
  have O := h3.obj
  rw [ha] at O
  have S3 := h3.mx
  rw [ha] at S3
  refine onPtr_mk ⟨_, _, _, (O.cell 0).trans rfl, onPtr_mk ⟨by omega, by omega, _, c0, ?_⟩⟩
  rw [e0]
  refine bc (fun h81 => ?_) (fun hne => ?_)
  · have h81 : mx.owner = task := by simpa using h81
    rw [if_pos h81]
    exact ⟨rfl, g, h3.up (by omega) (by omega), L03⟩
  have hne : ¬ mx.owner = task := by simpa using hne
  rw [if_neg hne]
  refine bc (fun hfree => ?_) (fun hheld => ?_)
  · have hfree : mx.owner = -1 := by simpa using hfree
    rw [if_pos hfree]
    refine ⟨(mcan S3 hil).1, fun w4 e4 => ?_⟩
    obtain ⟨I4, st4⟩ := h3.ow hhx hmx task ha e4
    exact ⟨rfl, _, I4.up (by omega) (by omega), L03.trans st4⟩
  · have hheld : ¬ mx.owner = -1 := by simpa using hheld
    rw [if_neg hheld]
    have hql : mx.queue.length = hd.2.1 := Qe.len
    have hqN := wt_lt h3 (j := i) (app_at (map_at (f := Mx.queue) hmx))
    have hb3 : base ≤ w3.heap.size := Nat.le_trans h3.bo (Nat.le_of_lt h3.obj.lt)
    refine ⟨_, _, _, c1, newBox fun w5 B5 k5 s5 => ?_⟩
    have h5 := h3.chgN k5
    obtain ⟨q', c', w6, hrun, Q6, k6, hq6, _⟩ := (Qe.chgN k5).append1 (t := 95) (ty := 95) (x := ⟨task, false, 0⟩) elemWt B5 (by simp only [maxLen]; omega) (by show (hd.2.1 + 1) * 24 ≤ _; omega) (by omega)
    have P6 := (h5.toParts.turn (Qe.chgN k5) k6).mx
    rw [ha] at P6
    refine ⟨_, _, _, w6, hrun, (mcan P6 hil).2, fun w7 e7 => ?_⟩
    obtain ⟨I7, st7⟩ := h5.mq (Q' := Q + 1) hhx hmx (h1 := (q', hd.2.1 + 1, c')) k6 Q6 (hq6.imp id .inl) ha e7 (by simp; omega) (fun y hy => by
      rcases List.mem_append.1 hy with hy | hy
      · exact h3.ht mx.queue (List.mem_of_getElem? (app_at (map_at (f := Mx.queue) hmx))) y hy
      · simp at hy; subst hy; exact ht64)
    refine Calls.use (wait45 I7 hN ht64 1 i) ?_
    rintro _ w8 ⟨rfl, g8, I8, st8⟩
    exact ⟨rfl, rfl, g8, I8, (L03.trans (Stp.ofN k5)).trans (st7.trans st8)⟩
end
end Full
end Go.Proofs.Ytibpbbjlecohiaa
set_option maxRecDepth 20000
namespace Go.Proofs.Ytibpbbjlecohiaa
namespace Full
open Go Go.Vc Go.RowKit
section
variable {w w' : World} {base N Q o : Nat} {g : G8} {s : S8}
theorem set_get {α : Type} {l : List α} {i : Nat} {x : α} (h : i < l.length) : (l.set i x)[i]? = some x := List.getElem?_set_self h
/-- a slice of ints in a block of its own: one may write into it -/
structure Mn (w : World) (q : Option Addr) (l : Nat) (xs : List Int) : Prop where
  ex : ∃ b c, SE En.int w b 3 q l c xs
theorem Mn.re {w : World} {q : Option Addr} {l : Nat} {xs : List Int} (h : Mn w q l xs) : RE En.int w q l xs := by
  obtain ⟨b, c, h⟩ := h.ex
  exact h.re
theorem Mn.len {w : World} {q : Option Addr} {l : Nat} {xs : List Int} (h : Mn w q l xs) : xs.length = l := h.re.len
theorem Mn.of {w : World} {b : Nat} {q : Option Addr} {l c : Nat} {xs : List Int} (h : SE En.int w b 3 q l c xs) : Mn w q l xs := ⟨b, c, h⟩
theorem Mn.nil (w : World) : Mn w none 0 [] := .of (SE.nil _ _ 0 _)
theorem Mn.chgS {w w' : World} {q : Option Addr} {l : Nat} {xs : List Int} (h : Mn w q l xs) {S : Nat → Prop} (c : Chg S w w') (hS : ∀ a, q = some a → ¬ S a.block) : Mn w' q l xs := by
  obtain ⟨b, c', h⟩ := h.ex
  refine .of (h.chg c fun g hg => ?_)
  cases q with
  | none => simp [qB] at hg
  | some a => simp [qB] at hg; subst hg; exact hS a rfl
theorem Mn.chg {w w' : World} {q : Option Addr} {l : Nat} {xs : List Int} (h : Mn w q l xs) (c : Chg none_ w w') : Mn w' q l xs := h.chgS c fun _ _ x => x
/-- hand: whom it wakes, and what is then -/
def handF (s : S8) (i : Nat) (mx : Mx) : List Int × S8 := match mx.queue with
  | [] => ([], { s with ms := s.ms.set i ⟨-1, []⟩ })
  | x :: xs => ([x.task], { s with ms := s.ms.set i ⟨x.task, xs⟩, wt := updF s.wt x.task none })
theorem hand46 (h : InvG w base N Q o g s) {i : Nat} {mx : Mx} (hmx : s.ms[i]? = some mx) {a : Addr} (ha : g.qm = some a) :
    Calls Try.prog 46 #[.pointer (some (ad o)), .pointer (some (a.add (i * 2)))] w (Ret fun v w' => ∃ q l c, v = .slice q l c ∧ Mn w' q l (handF s i mx).1 ∧ (∀ b, qB q = some b → w.heap.size ≤ b ∧ b < w'.heap.size) ∧ ∃ g', InvG w' base N Q o g' (handF s i mx).2 ∧ Stp o w g w' g' ∧ ∀ b, qB q = some b → ¬ Own g' o b) := by
  have hil := get_lt hmx
  obtain ⟨a', hd, ha', hhx, Qe, c0, c1⟩ := h.mrow_at hmx
  rw [ha] at ha'; cases ha'
  refine f46.calls _ _ ?_
  unfold f46.wp
  have S0 := h.mx
  rw [ha] at S0
  refine onPtr_mk ⟨(mcan S0 hil).1, fun w1 e1 => ?_⟩
  obtain ⟨I1, st1⟩ := h.ow hhx hmx (-1) ha e1
  have hm1 : ({ s with ms := s.ms.set i ⟨-1, mx.queue⟩ } : S8).ms[i]? = some ⟨-1, mx.queue⟩ := set_get hil
  obtain ⟨a1, hd1, ha1, hhx1, Q1, d0, d1⟩ := I1.mrow_at hm1
  have ha1' : g.qm = some a1 := ha1
  rw [ha] at ha1'; cases ha1'
  have hql : mx.queue.length = hd1.2.1 := Q1.len
  refine onPtr_mk ⟨_, _, _, d1, ?_⟩
  cases hqu : mx.queue with
  | nil =>
    rw [hqu] at hql
    have hl0 : hd1.2.1 = 0 := hql.symm
    have eF : handF s i mx = ([], { s with ms := s.ms.set i ⟨-1, []⟩ }) := by unfold handF; rw [hqu]
    rw [eF]
    rw [hqu] at I1
    exact bcT (by simp [hl0]) ⟨none, 0, 0, rfl, Mn.nil _, fun b hb => by simp [qB] at hb, _, I1, st1, fun b hb => by simp [qB] at hb⟩
  | cons x xs =>
    have eF : handF s i mx = ([x.task], { s with ms := s.ms.set i ⟨x.task, xs⟩, wt := updF s.wt x.task none }) := by unfold handF; rw [hqu]
    rw [eF]
    rw [hqu] at hql
    simp at hql
    have Q1' : SE En.wt w1 base 106 hd1.1 hd1.2.1 hd1.2.2 (x :: xs) := by rw [← hqu]; exact Q1
    obtain ⟨qa, y, hqa, hy, hrq⟩ := Q1'.re.ex (i := 0) (by omega)
    cases hy
    obtain ⟨hq, hl, hc⟩ := hd1
    simp only at hqa hql
    subst hqa
    have t0 := reads_at hrq (i := 0) rfl
    rw [add_zero'] at t0
    have S1 := I1.mx
    rw [show ({ g with hs := g.hs.set i ⟨-1, hd⟩ } : G8).qm = some a from ha] at S1
    have hil1 : i < (s.ms.set i ⟨-1, mx.queue⟩).length := by rw [List.length_set]; exact hil
    refine bcF (by simp; omega) (onPtr_mk ⟨_, _, _, d1, onPtr_mk ⟨by decide, by show (0 : Int) < (hl : Int); omega, x.task, t0, onPtr_mk ⟨(mcan S1 hil1).1, fun w2 e2 => ?_⟩⟩⟩)
    obtain ⟨I2, st2⟩ := I1.ow hhx1 hm1 x.task ha e2
    have hm2 : ({ s with ms := (s.ms.set i ⟨-1, mx.queue⟩).set i ⟨x.task, mx.queue⟩ } : S8).ms[i]? = some ⟨x.task, mx.queue⟩ := set_get hil1
    obtain ⟨a2, hd2, ha2, hhx2, Q2, f0, f1⟩ := I2.mrow_at hm2
    have ha2' : g.qm = some a2 := ha2
    rw [ha] at ha2'; cases ha2'
    have Q2' : SE En.wt w2 base 106 hd2.1 hd2.2.1 hd2.2.2 (x :: xs) := by rw [← hqu]; exact Q2
    refine onPtr_mk ⟨_, _, _, f1, Calls.use (delete84 Q2') ?_⟩
    rintro _ w3 ⟨rfl, Q3, k3⟩
    have P3 := (I2.toParts.turn Q2' k3).mx
    have ha2g : ({ g with hs := ((g.hs.set i ⟨-1, hd⟩).set i ⟨x.task, some qa, hl, hc⟩) } : G8).qm = some a := ha
    rw [ha2g] at P3
    have hil2 : i < ((s.ms.set i ⟨-1, mx.queue⟩).set i ⟨x.task, mx.queue⟩).length := by rw [List.length_set]; exact hil1
    refine ⟨_, _, _, rfl, onPtr_mk ⟨(mcan P3 hil2).2, fun w4 e4 => ?_⟩⟩
    have htx := h.ht mx.queue (List.mem_of_getElem? (app_at (map_at (f := Mx.queue) hmx)))
    rw [hqu] at htx
    obtain ⟨I4, st4⟩ := I2.mq (Q' := Q) hhx2 hm2 (h1 := (hd2.1, hd2.2.1 - 1, hd2.2.2)) (ys := xs) k3 Q3 (.inl rfl) ha e4 (by rw [hqu]; simp) (fun y hy => htx y (.tail _ hy))
    have I4' := I4.chgN (Chg.refl none_ w4).drew
    have st4' : Stp o w4 _ w4.drew _ := Stp.ofN (g := { g with hs := ((g.hs.set i ⟨-1, hd⟩).set i ⟨x.task, some qa, hl, hc⟩).set i ⟨x.task, hd2.1, hd2.2.1 - 1, hd2.2.2⟩ }) (Chg.refl none_ w4).drew
    generalize w4.drew = W at *
    have hm4 : ({ s with ms := ((s.ms.set i ⟨-1, mx.queue⟩).set i ⟨x.task, mx.queue⟩).set i ⟨x.task, xs⟩ } : S8).ms[i]? = some ⟨x.task, xs⟩ := set_get hil2
    obtain ⟨a4, hd4, ha4, hhx4, Q4, g0, g1⟩ := I4'.mrow_at hm4
    have ha4' : g.qm = some a4 := ha4
    rw [ha] at ha4'; cases ha4'
    have ht64 := htx x (.head _)
    obtain ⟨w5, hrun, M5, k5⟩ := I4'.wts.delete (t := 87) (e := 47) key3 Try.underlying87 ht64 0
    obtain ⟨I5, st5⟩ := I4'.wt' k5 M5 I4'.hn
    have hm5 := hm4
    obtain ⟨a5, hd5, ha5, hhx5, Q5, p0, p1⟩ := I5.mrow_at (i := i) (mx := ⟨x.task, xs⟩) hm5
    have ha5' : g.qm = some a5 := ha5
    rw [ha] at ha5'; cases ha5'
    have es : ({ s with ms := ((s.ms.set i ⟨-1, mx.queue⟩).set i ⟨x.task, mx.queue⟩).set i ⟨x.task, xs⟩, wt := updF s.wt x.task none } : S8) = { s with ms := s.ms.set i ⟨x.task, xs⟩, wt := updF s.wt x.task none } := by
      rw [List.set_set, List.set_set]
    refine onPtr_mk ⟨_, (I4'.obj.cell0 4).trans rfl, onPtr_mk ⟨_, g0, w5, hrun, onPtr_mk ⟨_, p0, newBox fun w6 B6 k6 s6 => ⟨_, _, _, rfl, Mn.of (SE.lit B6 (Nat.zero_le _) (fun n v hv => by rcases n with _ | n; exact hv; simp [En.flat, En.int] at hv) rfl (Nat.le_refl _) (by decide) (by show 1 * 1 ≤ 1; decide)), fun b hb => ?_, _, (es ▸ I5).chgN k6, (((st1.trans st2).trans (st4.trans st4')).trans st5).trans (Stp.ofN k6), fun b hb ho => ?_⟩⟩⟩⟩
    · cases hb
      have := ((st1.trans st2).trans (st4.trans st4')).trans st5
      exact ⟨this.chg.size, B6.lt⟩
    · obtain rfl : b = w5.heap.size := (Option.some.inj hb).symm
      exact Nat.lt_irrefl _ (I5.own_lt ho).1
/-- Unlock -/
def unlockF (s : S8) (task n : Int) : List Int × Int × S8 :=
  if askL task [(n, s.ms.length)] s.wt ≠ 0 then ([], askL task [(n, s.ms.length)] s.wt, s) else
  match s.ms[n.toNat]? with
  | none => ([], 0, s)
  | some m => if m.owner ≠ task then ([], 82, s) else ((handF s n.toNat m).1, 0, (handF s n.toNat m).2)
/-- what a call tells of whom it wakes: a slice of its own -/
def Woke (w w' : World) (base N Q o : Nat) (g : G8) (q : Option Addr) (l : Nat) (r : List Int) (s' : S8) : Prop :=
  Mn w' q l r ∧ (∀ b, qB q = some b → w.heap.size ≤ b ∧ b < w'.heap.size) ∧ ∃ g', InvG w' base N Q o g' s' ∧ Stp o w g w' g' ∧ ∀ b, qB q = some b → ¬ Own g' o b
theorem unlock19 (h : InvG w base N Q o g s) (task n : Int) :
    Calls Try.prog 19 #[.pointer (some (ad o)), .int .i64 task, .int .i64 n] w (Ret fun v w' => ∃ q l c, v = .tuple #[.slice q l c, .int .i64 (unlockF s task n).2.1] ∧ Woke w w' base N Q o g q l (unlockF s task n).1 (unlockF s task n).2.2) := by
  refine f19.calls _ _ _ ?_
  unfold f19.wp
  refine Calls.use (sizes43 h) ?_
  rintro _ w1 ⟨rfl, k1⟩
  refine ⟨_, _, _, _, rfl, newBox fun w2 B2 k2 _ => Calls.use (asks44 ((h.chgN k1).chgN k2) task (RE.of_flat (xs := [(n, (s.ms.length : Int))]) rfl B2.reads0) (by decide)) ?_⟩
  rintro _ w3 ⟨rfl, k3⟩
  have k03 := k1.trans (k2.trans k3)
  have h3 := h.chgN k03
  have L03 : Stp o w g w3 g := Stp.ofN k03
  have nil : ∀ s', InvG w3 base N Q o g s' → Woke w w3 base N Q o g none 0 [] s' := fun s' I => ⟨Mn.nil _, fun b hb => by simp [qB] at hb, g, I, L03, fun b hb => by simp [qB] at hb⟩
  refine ⟨_, rfl, bc (fun he => ?_) (fun he => ?_)⟩
  · have he : askL task [(n, s.ms.length)] s.wt ≠ 0 := by simpa using he
    have e : unlockF s task n = ([], askL task [(n, s.ms.length)] s.wt, s) := by unfold unlockF; rw [if_pos he]
    rw [e]
    exact ⟨_, _, _, rfl, nil _ h3⟩
  have he : askL task [(n, s.ms.length)] s.wt = 0 := by simpa using he
  obtain ⟨t0, t1, hbad, hw⟩ := askL_ok he
  obtain ⟨n0, n1⟩ := badN_one hbad
  obtain ⟨i, rfl⟩ : ∃ i : Nat, n = i := ⟨n.toNat, by omega⟩
  obtain ⟨mx, hmx⟩ := get_ex (l := s.ms) (i := i) (by omega)
  have e0 : unlockF s task i = if mx.owner ≠ task then (([], 82, s) : List Int × Int × S8) else ((handF s i mx).1, 0, (handF s i mx).2) := by
    unfold unlockF
    rw [if_neg (by simp [he]), Int.toNat_natCast, hmx]
  obtain ⟨a, hd, ha, hhx, Qe, c0, c1⟩ := h3.mrow_at hmx
  have et : ((i : Int)).toNat = i := by omega
  have O := h3.obj
  rw [ha] at O
  refine onPtr_mk ⟨_, _, _, (O.cell 0).trans rfl, onPtr_mk ⟨by omega, by omega, _, c0, ?_⟩⟩
  rw [e0]
  refine bc (fun hne => ?_) (fun heq => ?_)
  · have hne : mx.owner ≠ task := by simpa using hne
    rw [if_pos hne]
    exact ⟨_, _, _, rfl, nil _ h3⟩
  · have heq : ¬ (mx.owner ≠ task) := by simpa using heq
    rw [if_neg heq]
    refine onPtr_mk ⟨_, _, _, (O.cell 0).trans rfl, onPtr_mk ⟨by omega, by omega, ?_⟩⟩
    rw [et]
    refine Calls.use (hand46 h3 hmx ha) ?_
    rintro _ w4 ⟨q, l, c, rfl, h1, h2, g4, I4, st4, hn⟩
    exact ⟨_, _, _, rfl, _, _, _, rfl, h1, fun b hb => ⟨Nat.le_trans k03.size (h2 b hb).1, (h2 b hb).2⟩, g4, I4, L03.trans st4, hn⟩
end
end Full
end Go.Proofs.Ytibpbbjlecohiaa
set_option maxRecDepth 20000
namespace Go.Proofs.Ytibpbbjlecohiaa
namespace Full
open Go Go.Vc Go.RowKit
theorem elemInt : ElemOk Try.prog 35 3 1 8 := ⟨Try.underlying35, .int .i64 0, by kernel_rfl, rfl⟩
theorem zeroInt (w : World) : (zeroValue 3).run Try.prog w = .ok (.int .i64 0) w := by kernel_rfl
def idxI (xs : List Int) (x : Int) : Int := match xs.findIdx? (· == x) with | some i => (i : Int) | none => -1
theorem idxI_at {xs : List Int} {i : Nat} {x : Int} (h : xs[i]? = some x) (hn : ∀ (j : Nat) (y : Int), j < i → xs[j]? = some y → y ≠ x) : idxI xs x = i := by
  have : xs.findIdx? (· == x) = some i := by
    rw [List.findIdx?_eq_some_iff_getElem]
    have hi := get_lt h
    refine ⟨hi, ?_, fun j hj => ?_⟩
    · rw [List.getElem?_eq_getElem hi] at h; cases h; simp
    · have := hn j xs[j] hj (List.getElem?_eq_getElem (by omega))
      simpa using this
  rw [idxI, this]
theorem idxI_no {xs : List Int} {x : Int} (hn : ∀ (j : Nat) (y : Int), xs[j]? = some y → y ≠ x) : idxI xs x = -1 := by
  have : xs.findIdx? (· == x) = none := by
    rw [List.findIdx?_eq_none_iff]
    intro y hy
    obtain ⟨j, hj⟩ := List.getElem?_of_mem hy
    simpa using hn j y hj
  rw [idxI, this]
theorem index86 {w : World} {q : Option Addr} {l c : Nat} {xs : List Int} (h : RE En.int w q l xs) (x : Int) (hl : l ≤ 9223372036854775807) :
    Calls Try.prog 86 #[.slice q l c, .int .i64 x] w (Ret fun v w' => v = .int .i64 (idxI xs x) ∧ w = w') := by
  refine f86.calls _ _ _ _ ?_
  unfold f86.wp
  have hlen := h.len
  refine ⟨fun x1 w' => ∃ i : Nat, x1 = i ∧ i ≤ l ∧ w = w' ∧ ∀ (j : Nat) y, j < i → xs[j]? = some y → y ≠ x, fun x1 _ => l - x1.toNat, ⟨0, rfl, Nat.zero_le _, rfl, fun j y hj => by omega⟩, ?_⟩
  rintro x1 _ ⟨i, rfl, hi, rfl, hin⟩
  refine bc (fun hlt => ?_) (fun hge => ?_)
  · have hi' : i < l := by simpa using hlt
    obtain ⟨a, y, rfl, hy, hr⟩ := h.ex hi'
    rw [wrapS (x := (i : Int) + 1) (by omega) (by omega)]
    refine onPtr_mk ⟨by omega, by omega, y, reads_one' hr, bc (fun he => ⟨?_, rfl⟩) (fun he => ⟨⟨i + 1, by omega, hi', rfl, fun j z hj hz => ?_⟩, meas hi'⟩)⟩
    · have he : x = y := by simpa using he
      subst he
      rw [idxI_at hy hin]
    · have he : x ≠ y := by simpa using he
      rcases Nat.lt_or_ge j i with h1 | h1
      · exact hin j z h1 hz
      · have : j = i := by omega
        subst this
        rw [hy] at hz; cases hz
        exact fun e => he e.symm
  · have hge : ¬ i < l := by simpa using hge
    rw [idxI_no fun j y hj => hin j y (by have := get_lt hj; omega) hj]
    exact ⟨rfl, rfl⟩
/-- slices.Delete(s, i, i + 1), of ints -/
theorem delete87 {w : World} {base : Nat} {q : Option Addr} {l c i : Nat} {xs : List Int} (h : SE En.int w base 3 q l c xs) (hi : i < l) (hl : l ≤ 9223372036854775806) :
    Calls Try.prog 87 #[.slice q l c, .int .i64 (i : Int), .int .i64 ((i : Int) + 1)] w (Ret fun v w' => v = .slice q (l - 1) c ∧ SE En.int w' base 3 q (l - 1) c (xs.take i ++ xs.drop (i + 1)) ∧ Chg (fun k => some k = qB q) w w') := by
  refine f87.calls _ _ _ _ _ ?_
  unfold f87.wp
  have hle := h.le
  have hlen := h.len
  have hq : q ≠ none := fun hq => by
    obtain ⟨a, ha, _⟩ := h.can (i := 0) (by omega)
    rw [hq] at ha; cases ha
  obtain ⟨q', l', c', hr⟩ := run_sliceAt_ijn (P := Try.prog) elemInt q l c i (i + 1) l (by omega) (by omega) (by omega) w
  refine ⟨q', l', c', w, hr, bcF (by simp; omega) ⟨by omega, by omega, by omega, by omega, ?_⟩⟩
  have h0 := (h.take (n := i) (by omega)).drew
  have h1 := (h.re.cut (n := i + 1) (c := c) (by omega) hle).drew
  obtain ⟨w2, hrun, S2, k2⟩ := SE.appendIn (P := Try.prog) (t := 35) (ty := 35) (c2 := c - (i + 1)) h0 elemInt h1 (by omega)
  have el : i + (l - (i + 1)) = l - 1 := by omega
  rw [el] at hrun S2
  have et : Int.toNat (i : Int) = i := by omega
  have et1 : Int.toNat ((i : Int) + 1) = i + 1 := by omega
  rw [et, et1]
  refine ⟨_, _, _, w2, hrun, by omega, by omega, by omega, by omega, ?_⟩
  obtain ⟨w3, hrun3, S3, k3⟩ := SE.clear1 (P := Try.prog) (t := 35) (ty := 0) S2 hq Try.underlying35 zeroInt (by decide) rfl (by omega)
  have e1 : Int.toNat (l : Int) - Int.toNat ((l - 1 : Nat) : Int) = 1 := by omega
  refine ⟨w3, ?_, rfl, S3, k2.of_drew.trans k3⟩
  rw [e1]
  exact hrun3
end Full
end Go.Proofs.Ytibpbbjlecohiaa
set_option maxRecDepth 20000
namespace Go.Proofs.Ytibpbbjlecohiaa
namespace Full
open Go Go.Vc Go.RowKit
section
variable {w w' : World} {base N Q o : Nat} {g : G8} {s : S8}
def mayF (lx : Lk) (write : Bool) : Bool := decide (lx.writer < 0) && (!write || lx.readers.length == 0)
def hasF (lx : Lk) (task : Int) : Bool := lx.writer == task || decide (idxI lx.readers task ≥ 0)
def giveF (lx : Lk) (x : Wt) : Lk := if x.write then ⟨lx.readers, x.task, lx.queue⟩ else ⟨lx.readers ++ [x.task], lx.writer, lx.queue⟩
theorem InvG.rlen (h : InvG w base N Q o g s) {i : Nat} {lx : Lk} (hlx : s.ls[i]? = some lx) : lx.readers.length ≤ Q := by
  have := tot_at (map_at (f := Lk.readers) hlx); have := h.hq; omega
theorem may111 (h : InvG w base N Q o g s) {i : Nat} {lx : Lk} (hlx : s.ls[i]? = some lx) {a : Addr} (ha : g.q2 = some a) (write : Bool) :
    Calls Try.prog 111 #[.pointer (some (a.add (i * 3))), .bool write] w (Ret fun v w' => v = .bool (mayF lx write) ∧ w = w') := by
  obtain ⟨a', hr, hd, ha', hhx, Qe, Re, c0, c1, c2⟩ := h.lrow_at hlx
  rw [ha] at ha'; cases ha'
  refine f111.calls _ _ ?_
  unfold f111.wp
  have hrl : lx.readers.length = hr.2.1 := Re.len
  refine onPtr_mk ⟨_, c1, bc (fun h1 => bc (fun h2 => ⟨?_, rfl⟩) (fun h2 => onPtr_mk ⟨_, _, _, c0, ?_, rfl⟩)) (fun h1 => ⟨?_, rfl⟩)⟩
  · rw [mayF, h1]
    have : write = false := by simpa using h2
    simp [this]
  · rw [mayF, h1]
    have : write = true := by simpa using h2
    rw [this, hrl]
    refine congrArg Value.bool (Bool.eq_iff_iff.2 ?_)
    simp
  · rw [mayF, h1]; rfl
theorem has110 (h : InvG w base N Q o g s) {i : Nat} {lx : Lk} (hlx : s.ls[i]? = some lx) {a : Addr} (ha : g.q2 = some a) (task : Int) (hQ : Q ≤ 4398046511104) :
    Calls Try.prog 110 #[.pointer (some (a.add (i * 3))), .int .i64 task] w (Ret fun v w' => v = .bool (hasF lx task) ∧ w = w') := by
  obtain ⟨a', hr, hd, ha', hhx, Qe, Re, c0, c1, c2⟩ := h.lrow_at hlx
  rw [ha] at ha'; cases ha'
  have hrl : lx.readers.length = hr.2.1 := Re.len
  have hrq := h.rlen hlx
  refine f110.calls _ _ ?_
  unfold f110.wp
  refine onPtr_mk ⟨_, c1, bc (fun h1 => ⟨by rw [hasF, h1]; rfl, rfl⟩) (fun h1 => onPtr_mk ⟨_, _, _, c0, ?_⟩)⟩
  refine Calls.mono (f55.calls _ _ _ _ (w := w) (R := fun v w' => v = .bool (decide (idxI lx.readers task ≥ 0)) ∧ w = w') ?_) ?_
  · unfold f55.wp
    refine Calls.use (index86 Re.re task (by omega)) ?_
    rintro _ _ ⟨rfl, rfl⟩
    exact ⟨_, rfl, rfl, rfl⟩
  · rintro e w1 ⟨_, rfl, rfl, rfl⟩
    exact ⟨_, rfl, by rw [hasF, h1]; rfl, rfl⟩
theorem give112 (h : InvG w base N Q o g s) {i : Nat} {lx : Lk} (hlx : s.ls[i]? = some lx) {a : Addr} (ha : g.q2 = some a) (x : Wt) (hQ : Q ≤ 4398046511104) :
    Calls Try.prog 112 #[.pointer (some (a.add (i * 3))), .agg #[.int .i64 x.task, .bool x.write, .int .i64 x.mutex]] w (Ret fun v w' => v = .tuple #[] ∧ ∃ g', InvG w' base N (Q + 1) o g' { s with ls := s.ls.set i (giveF lx x) } ∧ Stp o w g w' g' ∧ g'.q2 = some a) := by
  refine f112.calls _ _ _ _ ?_
  unfold f112.wp
  have hil := get_lt hlx
  refine newBox fun w1 B1 k1 _ => ⟨_, (B1.cell0 1).trans rfl, ?_⟩
  have h1 := h.chgN k1
  obtain ⟨a', hr, hd, ha', hhx, Qe, Re, c0, c1, c2⟩ := h1.lrow_at hlx
  rw [ha] at ha'; cases ha'
  have S1 := h1.lk
  rw [ha] at S1
  refine bc (fun hw => ⟨_, (B1.cell 0).trans rfl, onPtr_mk ⟨(lcan S1 hil).2.1, fun w2 e2 => ?_⟩⟩) (fun hw => ?_)
  · obtain ⟨I2, st2⟩ := h1.wr hhx hlx x.task ha e2
    have e : giveF lx x = ⟨lx.readers, x.task, lx.queue⟩ := by rw [giveF, if_pos hw]
    rw [e]
    exact ⟨rfl, _, I2.up (Nat.le_refl _) (by omega), (Stp.ofN k1).trans st2, ha⟩
  · have hrl : lx.readers.length = hr.2.1 := Re.len
    have hrq := h.rlen hlx
    have e : giveF lx x = ⟨lx.readers ++ [x.task], lx.writer, lx.queue⟩ := by rw [giveF, if_neg (by simp [hw])]
    rw [e]
    have kd := (Chg.refl none_ w1).drew
    have h1' := h1.chgN kd
    have B1' := B1.drew
    have Re' := Re.chgN kd
    have c0' := (kd.cell (cell_some c0) (fun x => x)).trans c0
    have st1 : Stp o w g w1.drew g := Stp.ofN (k1.trans kd)
    generalize w1.drew = W at *
    refine ⟨fun p => p = a.add (i * 3) ∨ p.block = w.heap.size, onPtr_mk ⟨_, _, _, .inl rfl, c0', _, .inr rfl, (B1'.cell 0).trans rfl, newBox fun w3 B3 k3 _ => ?_⟩⟩
    have hKn : Keeps (fun p => p = a.add (i * 3) ∨ p.block = w.heap.size) W w3 := fun p hp => k3.cell (by
      rcases hp with rfl | hp
      · exact cell_some c0'
      · rw [hp]; exact B1'.lt) (fun x => x)
    have hb : base ≤ w3.heap.size := Nat.le_trans (Nat.le_trans h1'.bo (Nat.le_of_lt h1'.obj.lt)) k3.size
    obtain ⟨q', c', w4, hrun, R4, k4, hq4, _⟩ := (Re'.chgN k3).append1 (t := 35) (ty := 35) (x := x.task) elemInt B3 (by simp only [maxLen]; omega) (by show (hr.2.1 + 1) * 8 ≤ _; omega) hb
    have h3 := h1'.chgN k3
    obtain ⟨_, _, l4, _⟩ := h3.toParts.turnr (Re'.chgN k3) k4
    rw [ha] at l4
    have B3o := k3.blk B1' (fun x => x)
    have Lb : ∀ cur, Blk w3 w.heap.size 106 cur → ¬ (some w.heap.size = qB hr.1) := fun cur B e => SE.ne (Re'.chgN k3) B (by decide) _ e.symm rfl
    have La' : ¬ (some a.block = qB hr.1) := fun e => by
      have S3 := h3.lk
      rw [ha] at S3
      exact SE.ne2 (Re'.chgN k3) S3 (by decide) _ e.symm rfl
    refine ⟨hKn, _, _, _, w4, hrun, fun p hp => ?_, onPtr_mk ⟨(lcan l4 hil).1, fun w5 e5 => ?_⟩⟩
    · rw [k4.cell ?_ ?_]
      · exact hKn p hp
      · rcases hp with rfl | hp
        · exact Nat.lt_of_lt_of_le (cell_some c0') k3.size
        · rw [hp]; exact B3o.lt
      · rcases hp with rfl | hp
        · rw [add_block]; exact La'
        · rw [hp]; exact Lb _ B3o
    · obtain ⟨I5, st5⟩ := h3.rd (Q' := Q + 1) hhx hlx (h1 := (q', hr.2.1 + 1, c')) k4 R4 (hq4.imp id .inl) ha e5 (by simp; omega)
      exact ⟨rfl, _, I5, st1.trans ((Stp.ofN k3).trans st5), ha⟩
end
end Full
end Go.Proofs.Ytibpbbjlecohiaa
set_option maxRecDepth 20000
namespace Go.Proofs.Ytibpbbjlecohiaa
namespace Full
open Go Go.Vc Go.RowKit
section
variable {w w' : World} {base N Q o : Nat} {g : G8} {s : S8}
/-- RLock (kind 3), WLock (kind 5) -/
def takeF (s : S8) (task n kind : Int) : Bool × Int × S8 :=
  if askL task [(n, s.ls.length)] s.wt ≠ 0 then (false, askL task [(n, s.ls.length)] s.wt, s) else
  match s.ls[n.toNat]? with
  | none => (false, 0, s)
  | some m => if hasF m task then (false, 81, s) else if m.queue.length = 0 ∧ mayF m (kind == 5) then (true, 0, { s with ls := s.ls.set n.toNat (giveF m ⟨task, kind == 5, 0⟩) }) else
    (false, 0, { s with ls := s.ls.set n.toNat ⟨m.readers, m.writer, m.queue ++ [⟨task, kind == 5, 0⟩]⟩, wt := updF s.wt task (some (task, kind, n)) })
theorem take85 (h : InvG w base N Q o g s) (hN : N ≤ 4000000000000000000) (hQ : Q ≤ 4398046511104) (task n kind : Int) :
    Calls Try.prog 85 #[.pointer (some (ad o)), .int .i64 task, .int .i64 n, .int .i64 kind] w (Ret fun v w' => v = .tuple #[.bool (takeF s task n kind).1, .int .i64 (takeF s task n kind).2.1] ∧ ∃ g', InvG w' base (N + 1) (Q + 1) o g' (takeF s task n kind).2.2 ∧ Stp o w g w' g') := by
  refine f85.calls _ _ _ _ ?_
  unfold f85.wp
  refine Calls.use (sizes43 h) ?_
  rintro _ w1 ⟨rfl, k1⟩
  refine ⟨_, _, _, _, rfl, newBox fun w2 B2 k2 _ => Calls.use (asks44 ((h.chgN k1).chgN k2) task (RE.of_flat (xs := [(n, (s.ls.length : Int))]) rfl B2.reads0) (by decide)) ?_⟩
  rintro _ w3 ⟨rfl, k3⟩
  have k03 := k1.trans (k2.trans k3)
  have h3 := h.chgN k03
  have L03 : Stp o w g w3 g := Stp.ofN k03
  refine ⟨_, rfl, bc (fun he => ?_) (fun he => ?_)⟩
  · have he : askL task [(n, s.ls.length)] s.wt ≠ 0 := by simpa using he
    have e : takeF s task n kind = (false, askL task [(n, s.ls.length)] s.wt, s) := by unfold takeF; rw [if_pos he]
    rw [e]
    exact ⟨rfl, g, h3.up (by omega) (by omega), L03⟩
  have he : askL task [(n, s.ls.length)] s.wt = 0 := by simpa using he
  obtain ⟨t0, t1, hbad, hw⟩ := askL_ok he
  obtain ⟨n0, n1⟩ := badN_one hbad
  obtain ⟨i, rfl⟩ : ∃ i : Nat, n = i := ⟨n.toNat, by omega⟩
  obtain ⟨lx, hlx⟩ := get_ex (l := s.ls) (i := i) (by omega)
  have hil := get_lt hlx
  have e0 : takeF s task i kind = if hasF lx task then (false, 81, s) else if lx.queue.length = 0 ∧ mayF lx (kind == 5) then (true, 0, { s with ls := s.ls.set i (giveF lx ⟨task, kind == 5, 0⟩) }) else
    (false, 0, { s with ls := s.ls.set i ⟨lx.readers, lx.writer, lx.queue ++ [⟨task, kind == 5, 0⟩]⟩, wt := updF s.wt task (some (task, kind, (i : Int))) }) := by
    unfold takeF
    rw [if_neg (by simp [he]), Int.toNat_natCast, hlx]
  have ht64 := ok64_task t0 t1
  obtain ⟨a, _, _, ha, _⟩ := h3.lrow_at hlx
  have O := h3.obj
  rw [ha] at O
  have et : ((i : Int)).toNat = i := by omega
  refine onPtr_mk ⟨_, _, _, (O.cell0 1).trans rfl, onPtr_mk ⟨by omega, by omega, boxed rfl rfl fun w5 B5 k5 _ => ?_⟩⟩
  rw [et]
  have h5 := h3.chgN k5
  have L05 : Stp o w g w5 g := L03.trans (Stp.ofN k5)
  obtain ⟨a', hr, hd, ha', hhx, Qe, Re, c0, c1, c2⟩ := h5.lrow_at hlx
  rw [ha] at ha'; cases ha'
  have hql : lx.queue.length = hd.2.1 := Qe.len
  have hqN := wt_lt h5 (h5.lq_at hhx hlx).2
  refine ⟨fun w' => w5 = w' ∧ ¬ hasF lx task = true ∧ ¬ (lx.queue.length = 0 ∧ mayF lx (kind == 5) = true), ?_, Calls.use (has110 h5 hlx ha task hQ) ?_⟩
  · rintro _ ⟨rfl, hh, hq⟩
    rw [e0, if_neg hh, if_neg hq]
    have kd := (Chg.refl none_ w5).drew
    have h6 := h5.chgN kd
    have Q6' := Qe.chgN kd
    have B6 := B5.drew
    have c2' := (kd.cell (cell_some c2) (fun x => x)).trans c2
    have L06 : Stp o w g w5.drew g := L05.trans (Stp.ofN kd)
    generalize w5.drew = W at *
    refine ⟨fun p => p = (a.add (i * 3)).add 2 ∨ p.block = w3.heap.size, _, _, _, .inl rfl, c2', _, _, _, fun j _ => .inr (by rw [add_block]), B6.reads0, newBox fun w10 B10 k10 _ => ?_⟩
    have hKn : Keeps (fun p => p = (a.add (i * 3)).add 2 ∨ p.block = w3.heap.size) W w10 := fun p hp => k10.cell (by
      rcases hp with rfl | hp
      · exact cell_some c2'
      · rw [hp]; exact B6.lt) (fun x => x)
    have hb : base ≤ w10.heap.size := Nat.le_trans (Nat.le_trans h6.bo (Nat.le_of_lt h6.obj.lt)) k10.size
    have h10 := h6.chgN k10
    obtain ⟨q', c', w11, hrun, Q11, k11, hq11, _⟩ := (Q6'.chgN k10).append1 (t := 95) (ty := 95) (x := ⟨task, kind == 5, 0⟩) elemWt B10 (by simp only [maxLen]; omega) (by show (hd.2.1 + 1) * 24 ≤ _; omega) hb
    have P11 := (h10.toParts.turn (Q6'.chgN k10) k11).lk
    rw [ha] at P11
    have S10 := h10.lk
    rw [ha] at S10
    have B10o := k10.blk B6 (fun x => x)
    have nown : ¬ Own g o w3.heap.size := fun ho => by
      have := (h3.own_lt ho).1
      omega
    have La' : ¬ (some a.block = qB hd.1) := fun e => SE.ne2 (Q6'.chgN k10) S10 (by decide) _ e.symm rfl
    have Lb' : ¬ (some w3.heap.size = qB hd.1) := fun e => nown (.que (List.mem_of_getElem? (h3.lq_at hhx hlx).1) e.symm)
    refine ⟨hKn, _, _, _, w11, hrun, fun p hp => ?_, (lcan P11 hil).2.2, fun w12 e12 => ?_⟩
    · rw [k11.cell ?_ ?_]
      · exact hKn p hp
      · rcases hp with rfl | hp
        · exact Nat.lt_of_lt_of_le (cell_some c2') k10.size
        · rw [hp]; exact B10o.lt
      · rcases hp with rfl | hp
        · rw [add_block, add_block]; exact La'
        · rw [hp]; exact Lb'
    · obtain ⟨I12, st12⟩ := h10.lq (Q' := Q + 1) hhx hlx (h1 := (q', hd.2.1 + 1, c')) k11 Q11 (hq11.imp id .inl) ha e12 (by simp; omega) (fun y hy => by
        rcases List.mem_append.1 hy with hy | hy
        · exact h3.ht lx.queue (List.mem_of_getElem? (h3.lq_at hhx hlx).2) y hy
        · simp at hy; subst hy; exact ht64)
      refine Calls.use (wait45 I12 hN ht64 kind i) ?_
      rintro _ w13 ⟨rfl, g13, I13, st13⟩
      exact ⟨rfl, rfl, g13, I13, L06.trans ((Stp.ofN k10).trans (st12.trans st13))⟩
  · rintro _ _ ⟨rfl, rfl⟩
    refine ⟨_, rfl, bc (fun hh => ?_) (fun hh => ?_)⟩
    · rw [e0, if_pos hh]
      exact ⟨rfl, g, h5.up (by omega) (by omega), L05⟩
    have hh' : ¬ hasF lx task = true := by rw [hh]; decide
    refine ⟨_, _, _, c2, bc (fun hq0 => ?_) (fun hq0 => ⟨rfl, hh', fun h => ?_⟩)⟩
    · have hq0 : lx.queue.length = 0 := by rw [hql]; simpa using hq0
      refine ⟨_, (B5.cell0 1).trans rfl, Calls.use (may111 h5 hlx ha (kind == 5)) ?_⟩
      rintro _ _ ⟨rfl, rfl⟩
      refine ⟨_, rfl, bc (fun hm => ⟨_, _, _, B5.reads0, Calls.use (give112 h5 hlx ha ⟨task, kind == 5, 0⟩ hQ) ?_⟩) (fun hm => ⟨rfl, hh', fun h => by rw [hm] at h; cases h.2⟩)⟩
      rintro _ w9 ⟨rfl, g9, I9, st9, _⟩
      rw [e0, if_neg hh', if_pos ⟨hq0, hm⟩]
      exact ⟨rfl, rfl, g9, I9.up (by omega) (Nat.le_refl _), L05.trans st9⟩
    · have : hd.2.1 ≠ 0 := by simpa using hq0
      exact this (by rw [← hql]; exact h.1)
theorem rlock47 (h : InvG w base N Q o g s) (hN : N ≤ 4000000000000000000) (hQ : Q ≤ 4398046511104) (task n : Int) :
    Calls Try.prog 47 #[.pointer (some (ad o)), .int .i64 task, .int .i64 n] w (Ret fun v w' => v = .tuple #[.bool (takeF s task n 3).1, .int .i64 (takeF s task n 3).2.1] ∧ ∃ g', InvG w' base (N + 1) (Q + 1) o g' (takeF s task n 3).2.2 ∧ Stp o w g w' g') := by
  refine f47.calls _ _ _ ?_
  unfold f47.wp
  refine Calls.use (take85 h hN hQ task n 3) ?_
  rintro _ w1 ⟨rfl, hI⟩
  exact ⟨_, _, rfl, rfl, hI⟩
theorem wlock49 (h : InvG w base N Q o g s) (hN : N ≤ 4000000000000000000) (hQ : Q ≤ 4398046511104) (task n : Int) :
    Calls Try.prog 49 #[.pointer (some (ad o)), .int .i64 task, .int .i64 n] w (Ret fun v w' => v = .tuple #[.bool (takeF s task n 5).1, .int .i64 (takeF s task n 5).2.1] ∧ ∃ g', InvG w' base (N + 1) (Q + 1) o g' (takeF s task n 5).2.2 ∧ Stp o w g w' g') := by
  refine f49.calls _ _ _ ?_
  unfold f49.wp
  refine Calls.use (take85 h hN hQ task n 5) ?_
  rintro _ w1 ⟨rfl, hI⟩
  exact ⟨_, _, rfl, rfl, hI⟩
end
end Full
end Go.Proofs.Ytibpbbjlecohiaa
