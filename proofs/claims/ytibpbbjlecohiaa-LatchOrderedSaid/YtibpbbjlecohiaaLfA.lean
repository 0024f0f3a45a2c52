import Derived.Test.YtibpbbjlecohiaaLbP
import Derived.Test.YtibpbbjlecohiaaLeE
set_option maxRecDepth 20000
namespace Go.Proofs.Ytibpbbjlecohiaa
namespace Full
open Go Go.Vc Go.RowKit
/-! # the document's latches: plain. Rows: of each mutex, then of each lock, who holds it and who waits; then of each condition who waits -/
structure R8 where
  M : Nat
  L : Nat
  C : Nat
  rows : List (List W3)
  ns : List Int
def R8.row (r : R8) (j : Nat) : List W3 := (r.rows[j]?).getD []
def R8.put (r : R8) (j : Nat) (x : List W3) : R8 := { r with rows := r.rows.set j x }
def hasW (l : List W3) (t : Int) : Bool := l.any fun s => s.1 == t
def heldW (l : List W3) (t k : Int) : Bool := l.any fun s => s.1 == t && (k == 0 || s.2.1 == k)
def mayW (hs : List W3) (s : W3) : Bool := match hs with
  | [] => true
  | h :: _ => s.2.1 == 3 && h.2.1 == 3
def passW (hs : List W3) : List W3 → List Int × List W3 × List W3
  | [] => ([], hs, [])
  | s :: q => if mayW hs s then (s.1 :: (passW (hs ++ [s]) q).1, (passW (hs ++ [s]) q).2) else ([], hs, s :: q)
def takeR (r : R8) (k : Nat) (s : W3) : Bool × R8 := if r.row (2 * k + 1) = [] ∧ mayW (r.row (2 * k)) s = true then (true, r.put (2 * k) (r.row (2 * k) ++ [s])) else (false, r.put (2 * k + 1) (r.row (2 * k + 1) ++ [s]))
def giveR (r : R8) (k : Nat) (t : Int) : List Int × R8 :=
  ((passW ((r.row (2 * k)).filter fun s => s.1 != t) (r.row (2 * k + 1))).1, (r.put (2 * k) (passW ((r.row (2 * k)).filter fun s => s.1 != t) (r.row (2 * k + 1))).2.1).put (2 * k + 1) (passW ((r.row (2 * k)).filter fun s => s.1 != t) (r.row (2 * k + 1))).2.2)
def waitsR (r : R8) (t : Int) : Bool := (List.range r.M).any (fun k => hasW (r.row (2 * k + 1)) t) || ((List.range r.L).any (fun k => hasW (r.row (2 * (r.M + k) + 1)) t) || (List.range r.C).any fun i => hasW (r.row (2 * (r.M + r.L) + i)) t)
def askedR (r : R8) (t : Int) (b : Bool) : Int := if t < 0 ∨ 16 ≤ t then 70 else if b = false then 80 else if waitsR r t then 83 else 0
def inR (n : Int) (k : Nat) : Bool := decide (0 ≤ n) && decide (n < k)
def lockR (r : R8) (t n : Int) : Bool × Int × R8 :=
  if askedR r t (inR n r.M) ≠ 0 then (false, askedR r t (inR n r.M), r) else
  if heldW (r.row (2 * n.toNat)) t 0 then (false, 81, r) else ((takeR r n.toNat (t, 1, 0)).1, 0, (takeR r n.toNat (t, 1, 0)).2)
def unlockR (r : R8) (t n : Int) : List Int × Int × R8 :=
  if askedR r t (inR n r.M) ≠ 0 then ([], askedR r t (inR n r.M), r) else
  if heldW (r.row (2 * n.toNat)) t 0 = false then ([], 82, r) else ((giveR r n.toNat t).1, 0, (giveR r n.toNat t).2)
def takeLR (r : R8) (t n kind : Int) : Bool × Int × R8 :=
  if askedR r t (inR n r.L) ≠ 0 then (false, askedR r t (inR n r.L), r) else
  if heldW (r.row (2 * (r.M + n.toNat))) t 0 then (false, 81, r) else ((takeR r (r.M + n.toNat) (t, kind, 0)).1, 0, (takeR r (r.M + n.toNat) (t, kind, 0)).2)
def giveLR (r : R8) (t n kind : Int) : List Int × Int × R8 :=
  if askedR r t (inR n r.L) ≠ 0 then ([], askedR r t (inR n r.L), r) else
  if heldW (r.row (2 * (r.M + n.toNat))) t kind = false then ([], 82, r) else ((giveR r (r.M + n.toNat) t).1, 0, (giveR r (r.M + n.toNat) t).2)
def waitR (r : R8) (t n m : Int) : List Int × Int × R8 :=
  if askedR r t (inR n r.C && inR m r.M) ≠ 0 then ([], askedR r t (inR n r.C && inR m r.M), r) else
  if heldW (r.row (2 * m.toNat)) t 0 = false then ([], 82, r) else
  ((giveR r m.toNat t).1, 0, (giveR r m.toNat t).2.put (2 * (r.M + r.L) + n.toNat) ((giveR r m.toNat t).2.row (2 * (r.M + r.L) + n.toNat) ++ [(t, 7, m)]))
def letR (r : R8) (i : Nat) : List Int × R8 := match r.row (2 * (r.M + r.L) + i) with
  | [] => ([], r)
  | s :: q => (if (takeR (r.put (2 * (r.M + r.L) + i) q) s.2.2.toNat (s.1, 1, 0)).1 then [s.1] else [], (takeR (r.put (2 * (r.M + r.L) + i) q) s.2.2.toNat (s.1, 1, 0)).2)
def sigR (r : R8) (t n : Int) : List Int × Int × R8 :=
  if askedR r t (inR n r.C) ≠ 0 then ([], askedR r t (inR n r.C), r) else ((letR r n.toNat).1, 0, (letR r n.toNat).2)
def letNR : Nat → R8 → Nat → List Int × R8
  | 0, r, _ => ([], r)
  | k + 1, r, i => ((letR r i).1 ++ (letNR k (letR r i).2 i).1, (letNR k (letR r i).2 i).2)
def broR (r : R8) (t n : Int) : List Int × Int × R8 :=
  if askedR r t (inR n r.C) ≠ 0 then ([], askedR r t (inR n r.C), r) else
  ((letNR (r.row (2 * (r.M + r.L) + n.toNat)).length r n.toNat).1, 0, (letNR (r.row (2 * (r.M + r.L) + n.toNat)).length r n.toNat).2)
def addR (r : R8) (t n by_ : Int) : Int × Int × R8 :=
  if askedR r t (inR n r.ns.length) ≠ 0 then (0, askedR r t (inR n r.ns.length), r) else
  match r.ns[n.toNat]? with
  | none => (0, 0, r)
  | some m => (IntKind.wrap .i64 (m + by_), 0, { r with ns := r.ns.set n.toNat (IntKind.wrap .i64 (m + by_)) })
def mustR (r : R8) (task kind n m : Int) : Told × R8 :=
  if kind = 1 then (⟨(lockR r task n).1, [], 0, (lockR r task n).2.1⟩, (lockR r task n).2.2)
  else if kind = 2 then (⟨false, (unlockR r task n).1, 0, (unlockR r task n).2.1⟩, (unlockR r task n).2.2)
  else if kind = 3 then (⟨(takeLR r task n 3).1, [], 0, (takeLR r task n 3).2.1⟩, (takeLR r task n 3).2.2)
  else if kind = 4 then (⟨false, (giveLR r task n 3).1, 0, (giveLR r task n 3).2.1⟩, (giveLR r task n 3).2.2)
  else if kind = 5 then (⟨(takeLR r task n 5).1, [], 0, (takeLR r task n 5).2.1⟩, (takeLR r task n 5).2.2)
  else if kind = 6 then (⟨false, (giveLR r task n 5).1, 0, (giveLR r task n 5).2.1⟩, (giveLR r task n 5).2.2)
  else if kind = 7 then (⟨false, (waitR r task n m).1, 0, (waitR r task n m).2.1⟩, (waitR r task n m).2.2)
  else if kind = 8 then (⟨false, (sigR r task n).1, 0, (sigR r task n).2.1⟩, (sigR r task n).2.2)
  else if kind = 9 then (⟨false, (broR r task n).1, 0, (broR r task n).2.1⟩, (broR r task n).2.2)
  else if kind = 10 then (⟨false, [], (addR r task n m).1, (addR r task n m).2.1⟩, (addR r task n m).2.2)
  else (⟨false, [], 0, 0⟩, r)
/-! # the queues, and the map of those that wait -/
def ent (M L j : Nat) (x : Wt) : W3 := if j < M then (x.task, 1, (j : Int)) else if j < M + L then (x.task, if x.write then 5 else 3, ((j - M : Nat) : Int)) else (x.task, 7, ((j - M - L : Nat) : Int))
def trW (M L j : Nat) (x : Wt) : W3 := (x.task, if j < M then 1 else if j < M + L then (if x.write then 5 else 3) else 7, if j < M + L then 0 else x.mutex)
theorem ent_task (M L j : Nat) (x : Wt) : (ent M L j x).1 = x.task := by unfold ent; split <;> (try split) <;> rfl
theorem ent_inj {M L j j' : Nat} {x x' : Wt} (h : ent M L j x = ent M L j' x') : j = j' := by
  unfold ent at h
  have hk : ∀ b : Bool, (if b then (5 : Int) else 3) ≠ 1 ∧ (if b then (5 : Int) else 3) ≠ 7 := fun b => by cases b <;> decide
  by_cases h1 : j < M
  · rw [if_pos h1] at h
    by_cases h2 : j' < M
    · rw [if_pos h2] at h
      simp only [Prod.mk.injEq, true_and] at h; omega
    · rw [if_neg h2] at h
      split at h
      · simp only [Prod.mk.injEq] at h; exact absurd h.2.1.symm (hk _).1
      · simp only [Prod.mk.injEq] at h; omega
  · rw [if_neg h1] at h
    by_cases h2 : j' < M
    · rw [if_pos h2] at h
      split at h
      · simp only [Prod.mk.injEq] at h; exact absurd h.2.1 (hk _).1
      · simp only [Prod.mk.injEq] at h; omega
    · rw [if_neg h2] at h
      by_cases h3 : j < M + L
      · rw [if_pos h3] at h
        by_cases h4 : j' < M + L
        · rw [if_pos h4] at h; simp only [Prod.mk.injEq] at h; omega
        · rw [if_neg h4] at h; simp only [Prod.mk.injEq] at h; exact absurd h.2.1 (hk _).2
      · rw [if_neg h3] at h
        by_cases h4 : j' < M + L
        · rw [if_pos h4] at h; simp only [Prod.mk.injEq] at h; exact absurd h.2.1.symm (hk _).2
        · rw [if_neg h4] at h; simp only [Prod.mk.injEq, true_and] at h; omega
def InQ (M L : Nat) (qs : List (List Wt)) (v : W3) : Prop := ∃ j q x, qs[j]? = some q ∧ x ∈ q ∧ ent M L j x = v
structure QW (M L : Nat) (qs : List (List Wt)) (wt : Int → Option W3) : Prop where
  tk : ∀ q ∈ qs, ∀ x ∈ q, 0 ≤ x.task ∧ x.task < 16
  key : ∀ t v, wt t = some v → v.1 = t
  iq : ∀ v, InQ M L qs v ↔ wt v.1 = some v
  nd : ∀ q ∈ qs, (q.map Wt.task).Nodup
section
variable {M L : Nat} {qs : List (List Wt)} {wt : Int → Option W3}
theorem QW.push (h : QW M L qs wt) {j : Nat} {q : List Wt} (hj : qs[j]? = some q) (x : Wt) (h0 : wt x.task = none) (ht : 0 ≤ x.task ∧ x.task < 16) : QW M L (qs.set j (q ++ [x])) (updF wt x.task (some (ent M L j x))) := by
  have free : ∀ {j' : Nat} {q' : List Wt} {y : Wt}, qs[j']? = some q' → y ∈ q' → y.task ≠ x.task := fun {j' q' y} hq hy e => by
    have := (h.iq (ent M L j' y)).1 ⟨j', q', y, hq, hy, rfl⟩
    rw [ent_task, e, h0] at this; cases this
  refine ⟨fun q' hq y hy => ?_, fun t v hv => ?_, fun v => ⟨fun ⟨j', q', y, hq, hy, he⟩ => ?_, fun hv => ?_⟩, fun q' hq => ?_⟩
  · rcases List.mem_or_eq_of_mem_set hq with hq | rfl
    · exact h.tk q' hq y hy
    · rcases List.mem_append.1 hy with hy | hy
      · exact h.tk q (List.mem_of_getElem? hj) y hy
      · simp at hy; subst hy; exact ht
  · unfold updF at hv
    split at hv
    · cases hv; rw [ent_task]; exact Eq.symm (by assumption)
    · exact h.key t v hv
  · rcases set_cases hq with ⟨rfl, rfl⟩ | ⟨hne, hq⟩
    · rcases List.mem_append.1 hy with hy | hy
      · have hx := free hj hy
        have := (h.iq v).1 ⟨j, q, y, hj, hy, he⟩
        rw [← he, ent_task] at this ⊢
        unfold updF; rw [if_neg hx]; exact this
      · simp at hy; subst hy
        rw [← he, ent_task]; unfold updF; rw [if_pos rfl]
    · have hx := free hq hy
      have := (h.iq v).1 ⟨j', q', y, hq, hy, he⟩
      rw [← he, ent_task] at this ⊢
      unfold updF; rw [if_neg hx]; exact this
  · unfold updF at hv
    split at hv
    · cases hv
      exact ⟨j, q ++ [x], x, List.getElem?_set_self (get_lt hj), by simp, rfl⟩
    · obtain ⟨j', q', y, hq, hy, he⟩ := (h.iq v).2 hv
      by_cases e : j = j'
      · subst e
        rw [hj] at hq; cases hq
        exact ⟨j, q ++ [x], y, List.getElem?_set_self (get_lt hj), by simp [hy], he⟩
      · exact ⟨j', q', y, by rw [List.getElem?_set_ne e]; exact hq, hy, he⟩
  · rcases List.mem_or_eq_of_mem_set hq with hq | rfl
    · exact h.nd q' hq
    · rw [List.map_append]
      refine List.nodup_append.2 ⟨h.nd q (List.mem_of_getElem? hj), by simp, fun a ha b hb => ?_⟩
      obtain ⟨y, hy, rfl⟩ := List.mem_map.1 ha
      simp at hb; subst hb
      exact free hj hy
theorem QW.pop (h : QW M L qs wt) {j : Nat} {x : Wt} {q : List Wt} (hj : qs[j]? = some (x :: q)) : QW M L (qs.set j q) (updF wt x.task none) := by
  have hx := (h.iq (ent M L j x)).1 ⟨j, x :: q, x, hj, by simp, rfl⟩
  rw [ent_task] at hx
  have hnd := h.nd _ (List.mem_of_getElem? hj)
  rw [List.map_cons, List.nodup_cons] at hnd
  have other : ∀ {j' : Nat} {q' : List Wt} {y : Wt}, j ≠ j' → qs[j']? = some q' → y ∈ q' → y.task ≠ x.task := fun {j' q' y} hne hq hy e => by
    have := (h.iq (ent M L j' y)).1 ⟨j', q', y, hq, hy, rfl⟩
    rw [ent_task, e, hx] at this
    exact hne (ent_inj (Option.some.inj this))
  refine ⟨fun q' hq y hy => ?_, fun t v hv => ?_, fun v => ⟨fun ⟨j', q', y, hq, hy, he⟩ => ?_, fun hv => ?_⟩, fun q' hq => ?_⟩
  · rcases List.mem_or_eq_of_mem_set hq with hq | rfl
    · exact h.tk q' hq y hy
    · exact h.tk _ (List.mem_of_getElem? hj) y (List.mem_cons_of_mem _ hy)
  · unfold updF at hv
    split at hv
    · cases hv
    · exact h.key t v hv
  · rcases set_cases hq with ⟨rfl, rfl⟩ | ⟨hne, hq⟩
    · have hyx : y.task ≠ x.task := fun e => hnd.1 (by rw [← e]; exact List.mem_map.2 ⟨y, hy, rfl⟩)
      have := (h.iq v).1 ⟨j, x :: q', y, hj, List.mem_cons_of_mem _ hy, he⟩
      rw [← he, ent_task] at this ⊢
      unfold updF; rw [if_neg hyx]; exact this
    · have hyx := other hne hq hy
      have := (h.iq v).1 ⟨j', q', y, hq, hy, he⟩
      rw [← he, ent_task] at this ⊢
      unfold updF; rw [if_neg hyx]; exact this
  · unfold updF at hv
    split at hv
    · cases hv
    · rename_i hne
      obtain ⟨j', q', y, hq, hy, he⟩ := (h.iq v).2 hv
      by_cases e : j = j'
      · subst e
        rw [hj] at hq; cases hq
        rcases List.mem_cons.1 hy with rfl | hy
        · exact absurd (by rw [← he, ent_task]) hne
        · exact ⟨j, q, y, List.getElem?_set_self (get_lt hj), hy, he⟩
      · exact ⟨j', q', y, by rw [List.getElem?_set_ne e]; exact hq, hy, he⟩
  · rcases List.mem_or_eq_of_mem_set hq with hq | rfl
    · exact h.nd q' hq
    · exact hnd.2
end
/-! # the relation -/
def hM (m : Mx) : List W3 := if m.owner = -1 then [] else [(m.owner, 1, 0)]
def hL (l : Lk) : List W3 := l.readers.map (fun t => ((t, 3, 0) : W3)) ++ if 0 ≤ l.writer then [(l.writer, 5, 0)] else []
def qrow (M L j : Nat) : Nat := if j < M + L then 2 * j + 1 else M + L + j
structure Rel (s : S8) (r : R8) : Prop where
  eM : r.M = s.ms.length
  eL : r.L = s.ls.length
  eC : r.C = s.cs.length
  en : r.ns = s.ns
  rl : r.rows.length = 2 * (s.ms.length + s.ls.length) + s.cs.length
  hm : ∀ (i : Nat) (m : Mx), s.ms[i]? = some m → r.rows[2 * i]? = some (hM m)
  hl : ∀ (i : Nat) (l : Lk), s.ls[i]? = some l → r.rows[2 * (s.ms.length + i)]? = some (hL l)
  q : ∀ (j : Nat) (q : List Wt), s.qs[j]? = some q → r.rows[qrow s.ms.length s.ls.length j]? = some (q.map (trW s.ms.length s.ls.length j))
structure WS (s : S8) : Prop where
  own : ∀ m ∈ s.ms, 0 ≤ m.owner ∨ (m.owner = -1 ∧ m.queue = [])
  wr : ∀ l ∈ s.ls, l.writer = -1 ∨ (0 ≤ l.writer ∧ l.readers = [])
  rd : ∀ l ∈ s.ls, l.readers.Nodup ∧ (∀ x ∈ l.queue, x.task ∉ l.readers) ∧ ∀ t ∈ l.readers, 0 ≤ t ∧ t < 16
  mu : ∀ q ∈ s.cs, ∀ x ∈ q, 0 ≤ x.mutex ∧ x.mutex < s.ms.length
  ho : ∀ m ∈ s.ms, m.owner < 16
  hw : ∀ l ∈ s.ls, l.writer < 16
  qw : QW s.ms.length s.ls.length s.qs s.wt
theorem qs_len (s : S8) : s.qs.length = s.ms.length + s.ls.length + s.cs.length := by simp [S8.qs]; omega
theorem qs_m {s : S8} {i : Nat} {m : Mx} (h : s.ms[i]? = some m) : s.qs[i]? = some m.queue := app_at (map_at (f := Mx.queue) h)
theorem qs_l {s : S8} {i : Nat} {l : Lk} (h : s.ls[i]? = some l) : s.qs[s.ms.length + i]? = some l.queue := by
  have := app_at2 (a := s.ms.map Mx.queue) (app_at (b := s.cs) (map_at (f := Lk.queue) h))
  simpa [S8.qs] using this
theorem qs_c {s : S8} {i : Nat} {q : List Wt} (h : s.cs[i]? = some q) : s.qs[s.ms.length + s.ls.length + i]? = some q := by
  have := app_at2 (a := s.ms.map Mx.queue) (app_at2 (a := s.ls.map Lk.queue) h)
  simpa [S8.qs, Nat.add_assoc] using this
theorem R8.row_of {r : R8} {j : Nat} {x : List W3} (h : r.rows[j]? = some x) : r.row j = x := by simp [R8.row, h]
end Full
end Go.Proofs.Ytibpbbjlecohiaa
set_option maxRecDepth 20000
namespace Go.Proofs.Ytibpbbjlecohiaa
namespace Full
open Go Go.Vc Go.RowKit
/-! # the document's answer is the program's: each call -/
section
variable {s : S8} {r : R8}
theorem inR_bad (n : Int) (k : Nat) : inR n k = !badN [(n, (k : Int))] := by
  rw [Bool.eq_iff_iff]
  simp [inR, badN]
theorem inR_bad2 (n m : Int) (k l : Nat) : (inR n k && inR m l) = !badN [(n, (k : Int)), (m, (l : Int))] := by
  rw [Bool.eq_iff_iff]
  simp [inR, badN, and_assoc]
theorem inR_nat {n : Int} {k : Nat} (h : inR n k = true) : n = (n.toNat : Int) ∧ n.toNat < k := by
  simp only [inR, Bool.and_eq_true, decide_eq_true_eq] at h
  omega
theorem waits_eq (h : Rel s r) (W : WS s) (t : Int) : waitsR r t = (s.wt t).isSome := by
  have some_of : ∀ {j : Nat} {q : List Wt} {x : Wt}, s.qs[j]? = some q → x ∈ q → x.task = t → (s.wt t).isSome = true := fun {j q x} hq hx e => by
    have := (W.qw.iq (ent s.ms.length s.ls.length j x)).1 ⟨j, q, x, hq, hx, rfl⟩
    rw [ent_task, e] at this
    rw [this]; rfl
  rw [Bool.eq_iff_iff]
  simp only [waitsR, Bool.or_eq_true, List.any_eq_true, List.mem_range, hasW, beq_iff_eq, h.eM, h.eL, h.eC]
  constructor
  · rintro (⟨k, hk, y, hy, e⟩ | ⟨k, hk, y, hy, e⟩ | ⟨k, hk, y, hy, e⟩)
    · obtain ⟨m, hm⟩ := get_ex (l := s.ms) hk
      have hr := h.q k _ (qs_m hm)
      rw [qrow, if_pos (by omega)] at hr
      rw [R8.row_of hr] at hy
      obtain ⟨x, hx, rfl⟩ := List.mem_map.1 hy
      exact some_of (qs_m hm) hx e
    · obtain ⟨l, hl⟩ := get_ex (l := s.ls) hk
      have hr := h.q _ _ (qs_l hl)
      rw [qrow, if_pos (by omega)] at hr
      rw [R8.row_of hr] at hy
      obtain ⟨x, hx, rfl⟩ := List.mem_map.1 hy
      exact some_of (qs_l hl) hx e
    · obtain ⟨q, hq⟩ := get_ex (l := s.cs) hk
      have hr := h.q _ _ (qs_c hq)
      rw [qrow, if_neg (by omega), show s.ms.length + s.ls.length + (s.ms.length + s.ls.length + k) = 2 * (s.ms.length + s.ls.length) + k by omega] at hr
      rw [R8.row_of hr] at hy
      obtain ⟨x, hx, rfl⟩ := List.mem_map.1 hy
      exact some_of (qs_c hq) hx e
  · intro hs
    obtain ⟨v, hv⟩ := Option.isSome_iff_exists.1 hs
    have hk := W.qw.key t v hv
    obtain ⟨j, q, x, hq, hx, he⟩ := (W.qw.iq v).2 (by rw [hk]; exact hv)
    have hxt : x.task = t := by rw [← hk, ← he, ent_task]
    have hr := h.q j q hq
    have hj := get_lt hq
    rw [qs_len] at hj
    have hmem : trW s.ms.length s.ls.length j x ∈ q.map (trW s.ms.length s.ls.length j) := List.mem_map.2 ⟨x, hx, rfl⟩
    by_cases h1 : j < s.ms.length
    · rw [qrow, if_pos (by omega)] at hr
      exact .inl ⟨j, h1, trW s.ms.length s.ls.length j x, by rw [R8.row_of hr]; exact hmem, hxt⟩
    by_cases h2 : j < s.ms.length + s.ls.length
    · rw [qrow, if_pos h2] at hr
      refine .inr (.inl ⟨j - s.ms.length, by omega, trW s.ms.length s.ls.length j x, ?_, hxt⟩)
      rw [show 2 * (s.ms.length + (j - s.ms.length)) + 1 = 2 * j + 1 by omega, R8.row_of hr]
      exact hmem
    · rw [qrow, if_neg h2] at hr
      refine .inr (.inr ⟨j - (s.ms.length + s.ls.length), by omega, trW s.ms.length s.ls.length j x, ?_, hxt⟩)
      rw [show 2 * (s.ms.length + s.ls.length) + (j - (s.ms.length + s.ls.length)) = s.ms.length + s.ls.length + j by omega, R8.row_of hr]
      exact hmem
theorem asked_eq (h : Rel s r) (W : WS s) (t : Int) {b : Bool} {ps : List (Int × Int)} (hb : b = !badN ps) : askedR r t b = askL t ps s.wt := by
  unfold askedR askL
  rw [waits_eq h W, hb]
  cases badN ps <;> rfl
/-! ## what turns -/
theorem sets_get {α : Type} {l : List α} {a b : Nat} {x y : α} (j : Nat) (ha : a < l.length) (hb : b < l.length) (hab : a ≠ b) : ((l.set a x).set b y)[j]? = if j = a then some x else if j = b then some y else l[j]? := by
  by_cases h1 : j = a
  · subst h1
    rw [if_pos rfl, List.getElem?_set_ne (Ne.symm hab), List.getElem?_set_self ha]
  · rw [if_neg h1]
    by_cases h2 : j = b
    · subst h2
      rw [if_pos rfl, List.getElem?_set_self (by rw [List.length_set]; exact hb)]
    · rw [if_neg h2, List.getElem?_set_ne (Ne.symm h2), List.getElem?_set_ne (Ne.symm h1)]
theorem qrow_lt {M L j : Nat} (h : j < M + L) : qrow M L j = 2 * j + 1 := if_pos h
theorem Rel.setM (h : Rel s r) {i : Nat} {m : Mx} (hi : s.ms[i]? = some m) (m' : Mx) (wt' : Int → Option W3) :
    Rel { s with ms := s.ms.set i m', wt := wt' } { r with rows := (r.rows.set (2 * i) (hM m')).set (2 * i + 1) (m'.queue.map (trW s.ms.length s.ls.length i)) } := by
  have hil := get_lt hi
  have hrl := h.rl
  have hqs : ({ s with ms := s.ms.set i m', wt := wt' } : S8).qs = s.qs.set i m'.queue := by
    show (s.ms.set i m').map Mx.queue ++ _ = _
    rw [List.map_set, S8.qs, app_set (by simpa using hil)]
  refine ⟨by simp [h.eM], h.eL, h.eC, h.en, by simpa using hrl, fun j m2 hj => ?_, fun j l hj => ?_, fun j q hj => ?_⟩
  · show ((r.rows.set _ _).set _ _)[_]? = _
    rw [sets_get _ (by omega) (by omega) (by omega)]
    rcases set_cases hj with ⟨rfl, rfl⟩ | ⟨hne, hj⟩
    · rw [if_pos rfl]
    · rw [if_neg (by omega), if_neg (by omega)]; exact h.hm j m2 hj
  · show ((r.rows.set _ _).set _ _)[2 * ((s.ms.set i m').length + j)]? = _
    rw [List.length_set, sets_get _ (by omega) (by omega) (by omega), if_neg (by omega), if_neg (by omega)]
    exact h.hl j l hj
  · rw [hqs] at hj
    show ((r.rows.set _ _).set _ _)[qrow (s.ms.set i m').length s.ls.length j]? = some (q.map (trW (s.ms.set i m').length s.ls.length j))
    rw [List.length_set, sets_get _ (by omega) (by omega) (by omega)]
    rcases set_cases hj with ⟨rfl, rfl⟩ | ⟨hne, hj⟩
    · rw [qrow_lt (by omega), if_neg (by omega), if_pos rfl]
    · have := get_lt hj
      rw [qs_len] at this
      rw [if_neg (by unfold qrow; split <;> omega), if_neg (by unfold qrow; split <;> omega)]
      exact h.q j q hj
theorem Rel.setL (h : Rel s r) {i : Nat} {l : Lk} (hi : s.ls[i]? = some l) (l' : Lk) (wt' : Int → Option W3) :
    Rel { s with ls := s.ls.set i l', wt := wt' } { r with rows := (r.rows.set (2 * (s.ms.length + i)) (hL l')).set (2 * (s.ms.length + i) + 1) (l'.queue.map (trW s.ms.length s.ls.length (s.ms.length + i))) } := by
  have hil := get_lt hi
  have hrl := h.rl
  have hqs : ({ s with ls := s.ls.set i l', wt := wt' } : S8).qs = s.qs.set (s.ms.length + i) l'.queue := by
    show s.ms.map Mx.queue ++ ((s.ls.set i l').map Lk.queue ++ s.cs) = _
    rw [List.map_set, S8.qs]
    have := app_set2 (a := s.ms.map Mx.queue) (b := s.ls.map Lk.queue ++ s.cs) (i := i) (y := l'.queue)
    rw [List.length_map] at this
    rw [this, app_set (by simpa using hil)]
  refine ⟨h.eM, by simp [h.eL], h.eC, h.en, by simpa using hrl, fun j m hj => ?_, fun j l2 hj => ?_, fun j q hj => ?_⟩
  · have := get_lt hj
    show ((r.rows.set _ _).set _ _)[_]? = _
    have hj : s.ms[j]? = some m := hj
    have := get_lt hj
    rw [sets_get _ (by omega) (by omega) (by omega), if_neg (by omega), if_neg (by omega)]
    exact h.hm j m hj
  · show ((r.rows.set _ _).set _ _)[2 * (s.ms.length + j)]? = _
    rw [sets_get _ (by omega) (by omega) (by omega)]
    rcases set_cases hj with ⟨rfl, rfl⟩ | ⟨hne, hj⟩
    · rw [if_pos rfl]
    · rw [if_neg (by omega), if_neg (by omega)]; exact h.hl j l2 hj
  · rw [hqs] at hj
    show ((r.rows.set _ _).set _ _)[qrow s.ms.length (s.ls.set i l').length j]? = some (q.map (trW s.ms.length (s.ls.set i l').length j))
    rw [List.length_set, sets_get _ (by omega) (by omega) (by omega)]
    rcases set_cases hj with ⟨rfl, rfl⟩ | ⟨hne, hj⟩
    · rw [qrow_lt (by omega), if_neg (by omega), if_pos rfl]
    · have := get_lt hj
      rw [qs_len] at this
      rw [if_neg (by unfold qrow; split <;> omega), if_neg (by unfold qrow; split <;> omega)]
      exact h.q j q hj
theorem Rel.setC (h : Rel s r) {i : Nat} {q : List Wt} (hi : s.cs[i]? = some q) (q' : List Wt) (wt' : Int → Option W3) :
    Rel { s with cs := s.cs.set i q', wt := wt' } { r with rows := r.rows.set (2 * (s.ms.length + s.ls.length) + i) (q'.map (trW s.ms.length s.ls.length (s.ms.length + s.ls.length + i))) } := by
  have hil := get_lt hi
  have hrl := h.rl
  have hqs : ({ s with cs := s.cs.set i q', wt := wt' } : S8).qs = s.qs.set (s.ms.length + s.ls.length + i) q' := by
    show s.ms.map Mx.queue ++ (s.ls.map Lk.queue ++ s.cs.set i q') = _
    rw [S8.qs]
    have e1 := app_set2 (a := s.ms.map Mx.queue) (b := s.ls.map Lk.queue ++ s.cs) (i := s.ls.length + i) (y := q')
    have e2 := app_set2 (a := s.ls.map Lk.queue) (b := s.cs) (i := i) (y := q')
    rw [List.length_map] at e1 e2
    rw [Nat.add_assoc, e1, e2]
  refine ⟨h.eM, h.eL, by simp [h.eC], h.en, by simpa using hrl, fun j m hj => ?_, fun j l2 hj => ?_, fun j z hj => ?_⟩
  · show (r.rows.set _ _)[_]? = _
    have hj : s.ms[j]? = some m := hj
    have := get_lt hj
    rw [List.getElem?_set_ne (by omega)]
    exact h.hm j m hj
  · show (r.rows.set _ _)[2 * (s.ms.length + j)]? = _
    have hj : s.ls[j]? = some l2 := hj
    have := get_lt hj
    rw [List.getElem?_set_ne (by omega)]
    exact h.hl j l2 hj
  · rw [hqs] at hj
    show (r.rows.set _ _)[qrow s.ms.length s.ls.length j]? = some (z.map (trW s.ms.length s.ls.length j))
    rcases set_cases hj with ⟨rfl, rfl⟩ | ⟨hne, hj⟩
    · rw [qrow, if_neg (by omega), show s.ms.length + s.ls.length + (s.ms.length + s.ls.length + i) = 2 * (s.ms.length + s.ls.length) + i by omega, List.getElem?_set_self (by omega)]
    · have := get_lt hj
      rw [qs_len] at this
      rw [List.getElem?_set_ne (by unfold qrow; split <;> omega)]
      exact h.q j z hj
theorem qs_setM (s : S8) (i : Nat) (m' : Mx) (wt' : Int → Option W3) (hil : i < s.ms.length) : ({ s with ms := s.ms.set i m', wt := wt' } : S8).qs = s.qs.set i m'.queue := by
  show (s.ms.set i m').map Mx.queue ++ _ = _
  rw [List.map_set, S8.qs, app_set (by simpa using hil)]
theorem qs_setL (s : S8) (i : Nat) (l' : Lk) (wt' : Int → Option W3) (hil : i < s.ls.length) : ({ s with ls := s.ls.set i l', wt := wt' } : S8).qs = s.qs.set (s.ms.length + i) l'.queue := by
  show s.ms.map Mx.queue ++ ((s.ls.set i l').map Lk.queue ++ s.cs) = _
  rw [List.map_set, S8.qs]
  have := app_set2 (a := s.ms.map Mx.queue) (b := s.ls.map Lk.queue ++ s.cs) (i := i) (y := l'.queue)
  rw [List.length_map] at this
  rw [this, app_set (by simpa using hil)]
theorem qs_setC (s : S8) (i : Nat) (q' : List Wt) (wt' : Int → Option W3) : ({ s with cs := s.cs.set i q', wt := wt' } : S8).qs = s.qs.set (s.ms.length + s.ls.length + i) q' := by
  show s.ms.map Mx.queue ++ (s.ls.map Lk.queue ++ s.cs.set i q') = _
  rw [S8.qs]
  have e1 := app_set2 (a := s.ms.map Mx.queue) (b := s.ls.map Lk.queue ++ s.cs) (i := s.ls.length + i) (y := q')
  have e2 := app_set2 (a := s.ls.map Lk.queue) (b := s.cs) (i := i) (y := q')
  rw [List.length_map] at e1 e2
  rw [Nat.add_assoc, e1, e2]
theorem WS.setM (W : WS s) {i : Nat} (hil : i < s.ms.length) {m' : Mx} {wt' : Int → Option W3} (ho : 0 ≤ m'.owner ∨ (m'.owner = -1 ∧ m'.queue = [])) (h16 : m'.owner < 16) (hq : QW s.ms.length s.ls.length (s.qs.set i m'.queue) wt') : WS { s with ms := s.ms.set i m', wt := wt' } := by
  refine ⟨fun m hm => ?_, W.wr, W.rd, fun q hq x hx => by simpa using W.mu q hq x hx, fun m hm => ?_, W.hw, ?_⟩
  · rcases List.mem_or_eq_of_mem_set hm with hm | rfl
    · exact W.own m hm
    · exact ho
  · rcases List.mem_or_eq_of_mem_set hm with hm | rfl
    · exact W.ho m hm
    · exact h16
  · rw [qs_setM s i m' wt' hil]
    simpa using hq
theorem WS.setL (W : WS s) {i : Nat} (hil : i < s.ls.length) {l' : Lk} {wt' : Int → Option W3} (hw : l'.writer = -1 ∨ (0 ≤ l'.writer ∧ l'.readers = [])) (hr : l'.readers.Nodup ∧ (∀ x ∈ l'.queue, x.task ∉ l'.readers) ∧ ∀ t ∈ l'.readers, 0 ≤ t ∧ t < 16) (h16 : l'.writer < 16) (hq : QW s.ms.length s.ls.length (s.qs.set (s.ms.length + i) l'.queue) wt') : WS { s with ls := s.ls.set i l', wt := wt' } := by
  refine ⟨W.own, fun l hl => ?_, fun l hl => ?_, W.mu, W.ho, fun l hl => ?_, ?_⟩
  · rcases List.mem_or_eq_of_mem_set hl with hl | rfl
    · exact W.wr l hl
    · exact hw
  · rcases List.mem_or_eq_of_mem_set hl with hl | rfl
    · exact W.rd l hl
    · exact hr
  · rcases List.mem_or_eq_of_mem_set hl with hl | rfl
    · exact W.hw l hl
    · exact h16
  · rw [qs_setL s i l' wt' hil]
    simpa using hq
theorem WS.setC (W : WS s) {i : Nat} {q' : List Wt} {wt' : Int → Option W3} (hm : ∀ x ∈ q', 0 ≤ x.mutex ∧ x.mutex < s.ms.length) (hq : QW s.ms.length s.ls.length (s.qs.set (s.ms.length + s.ls.length + i) q') wt') : WS { s with cs := s.cs.set i q', wt := wt' } := by
  refine ⟨W.own, W.wr, W.rd, fun q hqm x hx => ?_, W.ho, W.hw, ?_⟩
  · rcases List.mem_or_eq_of_mem_set hqm with h | rfl
    · exact W.mu q h x hx
    · exact hm x hx
  · rw [qs_setC s i q' wt']
    exact hq
/-! ## mutexes -/
theorem hM_held {m : Mx} {t : Int} (ht : 0 ≤ t) : heldW (hM m) t 0 = (m.owner == t) := by
  unfold hM
  by_cases h : m.owner = -1
  · rw [if_pos h, h]
    have : ((-1 : Int) == t) = false := by simp; omega
    rw [this]; rfl
  · rw [if_neg h]
    simp [heldW]
theorem R8.put2 (r : R8) {i : Nat} {x y : List W3} (hx : r.rows[2 * i + 1]? = some y) : r.put (2 * i) x = { r with rows := (r.rows.set (2 * i) x).set (2 * i + 1) y } := by
  unfold R8.put
  congr 1
  rw [set_same (l := r.rows.set (2 * i) x)]
  rw [List.getElem?_set_ne (by omega)]; exact hx
theorem R8.put1 (r : R8) {i : Nat} {x y : List W3} (hx : r.rows[2 * i]? = some y) : r.put (2 * i + 1) x = { r with rows := (r.rows.set (2 * i) y).set (2 * i + 1) x } := by
  unfold R8.put
  rw [set_same hx]
structure Sim (s : S8) (r : R8) : Prop where
  rel : Rel s r
  ws : WS s
theorem Rel.mrow (h : Rel s r) {i : Nat} {m : Mx} (hi : s.ms[i]? = some m) : r.rows[2 * i]? = some (hM m) ∧ r.rows[2 * i + 1]? = some (m.queue.map (trW s.ms.length s.ls.length i)) := by
  refine ⟨h.hm i m hi, ?_⟩
  have := h.q i _ (qs_m hi)
  rw [qrow, if_pos (by have := get_lt hi; omega)] at this
  exact this
theorem Rel.lrow (h : Rel s r) {i : Nat} {l : Lk} (hi : s.ls[i]? = some l) : r.rows[2 * (s.ms.length + i)]? = some (hL l) ∧ r.rows[2 * (s.ms.length + i) + 1]? = some (l.queue.map (trW s.ms.length s.ls.length (s.ms.length + i))) := by
  refine ⟨h.hl i l hi, ?_⟩
  have := h.q _ _ (qs_l hi)
  rw [qrow, if_pos (by have := get_lt hi; omega)] at this
  exact this
theorem Rel.crow (h : Rel s r) {i : Nat} {q : List Wt} (hi : s.cs[i]? = some q) : r.rows[2 * (s.ms.length + s.ls.length) + i]? = some (q.map (trW s.ms.length s.ls.length (s.ms.length + s.ls.length + i))) := by
  have := h.q _ _ (qs_c hi)
  rw [qrow, if_neg (by omega), show s.ms.length + s.ls.length + (s.ms.length + s.ls.length + i) = 2 * (s.ms.length + s.ls.length) + i by omega] at this
  exact this
/-- a task takes a mutex, or waits -/
theorem takeM (h : Sim s r) {i : Nat} {m : Mx} (hi : s.ms[i]? = some m) {t : Int} (ht : 0 ≤ t ∧ t < 16) (hw : s.wt t = none) (x : Wt) (hx : x.task = t) :
    (m.owner = -1 → takeR r i (t, 1, 0) = (true, { r with rows := (r.rows.set (2 * i) (hM ⟨t, m.queue⟩)).set (2 * i + 1) (m.queue.map (trW s.ms.length s.ls.length i)) }) ∧ Sim { s with ms := s.ms.set i ⟨t, m.queue⟩ } (takeR r i (t, 1, 0)).2) ∧
    (m.owner ≠ -1 → (takeR r i (t, 1, 0)).1 = false ∧ Sim { s with ms := s.ms.set i ⟨m.owner, m.queue ++ [x]⟩, wt := updF s.wt t (some (t, 1, (i : Int))) } (takeR r i (t, 1, 0)).2) := by
  have hil := get_lt hi
  obtain ⟨h0, h1⟩ := h.rel.mrow hi
  have htr : trW s.ms.length s.ls.length i x = (t, 1, 0) := by unfold trW; rw [if_pos hil, if_pos (by omega), hx]
  have hen : ent s.ms.length s.ls.length i x = (t, 1, (i : Int)) := by unfold ent; rw [if_pos hil, hx]
  refine ⟨fun ho => ?_, fun ho => ?_⟩
  · have hq : m.queue = [] := by
      rcases h.ws.own m (List.mem_of_getElem? hi) with h | h
      · omega
      · exact h.2
    have e : takeR r i (t, 1, 0) = (true, r.put (2 * i) (hM ⟨t, m.queue⟩)) := by
      unfold takeR
      rw [R8.row_of h0, R8.row_of h1, hq, if_pos ⟨rfl, by rw [hM, if_pos ho]; rfl⟩, hM, if_pos ho, hM, if_neg (by show t ≠ -1; omega)]
      rfl
    have e2 := R8.put2 r (i := i) (x := hM ⟨t, m.queue⟩) h1
    rw [e, e2]
    exact ⟨rfl, h.rel.setM hi ⟨t, m.queue⟩ s.wt, h.ws.setM hil (m' := ⟨t, m.queue⟩) (wt' := s.wt) (.inl ht.1) ht.2 (by show QW _ _ (s.qs.set i m.queue) _; rw [set_same (qs_m hi)]; exact h.ws.qw)⟩
  · have e : takeR r i (t, 1, 0) = (false, r.put (2 * i + 1) (m.queue.map (trW s.ms.length s.ls.length i) ++ [(t, 1, 0)])) := by
      unfold takeR
      rw [R8.row_of h0, R8.row_of h1, if_neg (by rintro ⟨_, hh⟩; rw [hM, if_neg ho] at hh; exact absurd hh (by simp [mayW]))]
    have e2 := R8.put1 r (i := i) (x := m.queue.map (trW s.ms.length s.ls.length i) ++ [(t, 1, 0)]) h0
    rw [e, e2]
    have e3 : m.queue.map (trW s.ms.length s.ls.length i) ++ [(t, 1, 0)] = (m.queue ++ [x]).map (trW s.ms.length s.ls.length i) := by rw [List.map_append]; simp [htr]
    rw [e3]
    refine ⟨rfl, h.rel.setM hi ⟨m.owner, m.queue ++ [x]⟩ (updF s.wt t (some (t, 1, (i : Int)))), h.ws.setM hil (m' := ⟨m.owner, m.queue ++ [x]⟩) ?_ (h.ws.ho m (List.mem_of_getElem? hi)) ?_⟩
    · rcases h.ws.own m (List.mem_of_getElem? hi) with h | h
      · exact .inl h
      · exact absurd h.1 ho
    · have := h.ws.qw.push (qs_m hi) x (by rw [hx]; exact hw) (by rw [hx]; exact ht)
      rw [hen, hx] at this
      exact this
theorem passW_m (a : Int) (l : List W3) : passW [(a, 1, 0)] l = ([], [(a, 1, 0)], l) := by
  cases l with
  | nil => rfl
  | cons y r => unfold passW; rw [if_neg (by simp [mayW])]
theorem handS (h : Sim s r) {i : Nat} {m : Mx} (hi : s.ms[i]? = some m) {t : Int} (ht : 0 ≤ t) (ho : m.owner = t) : (giveR r i t).1 = (handF s i m).1 ∧ Sim (handF s i m).2 (giveR r i t).2 := by
  have hil := get_lt hi
  obtain ⟨h0, h1⟩ := h.rel.mrow hi
  have hf : (hM m).filter (fun s => s.1 != t) = [] := by
    unfold hM
    rw [if_neg (by omega), ho]; simp
  unfold giveR handF
  rw [R8.row_of h0, R8.row_of h1, hf]
  cases hq : m.queue with
  | nil =>
    refine ⟨rfl, ?_⟩
    show Sim { s with ms := s.ms.set i ⟨-1, []⟩ } _
    exact ⟨h.rel.setM hi ⟨-1, []⟩ s.wt, h.ws.setM hil (m' := ⟨-1, []⟩) (wt' := s.wt) (.inr ⟨rfl, rfl⟩) (by show (-1 : Int) < 16; decide) (by show QW _ _ (s.qs.set i []) _; rw [← hq, set_same (qs_m hi)]; exact h.ws.qw)⟩
  | cons x xs =>
    have hxt : 0 ≤ x.task := (h.ws.qw.tk _ (List.mem_of_getElem? (qs_m hi)) x (by rw [hq]; simp)).1
    have htr : trW s.ms.length s.ls.length i x = (x.task, 1, 0) := by unfold trW; rw [if_pos hil, if_pos (by omega)]
    have e : passW [] ((x :: xs).map (trW s.ms.length s.ls.length i)) = ([x.task], [(x.task, 1, 0)], xs.map (trW s.ms.length s.ls.length i)) := by
      rw [List.map_cons, htr]
      unfold passW
      rw [if_pos (show mayW [] ((x.task, 1, 0) : W3) = true from rfl), List.nil_append, passW_m]
    rw [e]
    refine ⟨rfl, ?_, h.ws.setM hil (m' := ⟨x.task, xs⟩) (.inl hxt) (h.ws.qw.tk _ (List.mem_of_getElem? (qs_m hi)) x (by rw [hq]; simp)).2 ?_⟩
    · have := h.rel.setM hi ⟨x.task, xs⟩ (updF s.wt x.task none)
      rw [hM, if_neg (by show x.task ≠ -1; omega)] at this
      exact this
    · have hj := qs_m hi
      rw [hq] at hj
      exact h.ws.qw.pop hj
theorem ask_ok {t : Int} {ps : List (Int × Int)} (h0 : askL t ps s.wt = 0) : 0 ≤ t ∧ s.wt t = none := ⟨(askL_ok h0).1, (askL_ok h0).2.2.2⟩
theorem lock_sim (h : Sim s r) (t n : Int) : (lockR r t n).1 = (lockF s t n).1 ∧ (lockR r t n).2.1 = (lockF s t n).2.1 ∧ Sim (lockF s t n).2.2 (lockR r t n).2.2 := by
  have ea : askedR r t (inR n r.M) = askL t [(n, s.ms.length)] s.wt := by rw [h.rel.eM]; exact asked_eq h.rel h.ws t (inR_bad n _)
  unfold lockR lockF
  rw [ea]
  by_cases h0 : askL t [(n, s.ms.length)] s.wt = 0
  · have hne : ¬ (askL t [(n, (s.ms.length : Int))] s.wt ≠ 0) := by simp [h0]
    rw [if_neg hne, if_neg hne]
    obtain ⟨ht, ht16, hb, hw⟩ := askL_ok h0
    have hin : inR n s.ms.length = true := by rw [inR_bad, hb]; rfl
    obtain ⟨en, hn⟩ := inR_nat hin
    obtain ⟨m, hm⟩ := get_ex (l := s.ms) hn
    obtain ⟨h1, _⟩ := h.rel.mrow hm
    rw [R8.row_of h1, hM_held ht]
    simp only [hm]
    by_cases ho : m.owner = t
    · rw [if_pos (show (m.owner == t) = true by simpa using ho), if_pos ho]
      exact ⟨rfl, rfl, h⟩
    · rw [if_neg (show ¬ (m.owner == t) = true by simpa using ho), if_neg ho]
      obtain ⟨k1, k2⟩ := takeM h hm ⟨ht, ht16⟩ hw ⟨t, false, 0⟩ rfl
      by_cases hf : m.owner = -1
      · rw [if_pos hf]
        obtain ⟨a, b⟩ := k1 hf
        exact ⟨by rw [a], rfl, b⟩
      · rw [if_neg hf]
        obtain ⟨a, b⟩ := k2 hf
        rw [← en] at b
        exact ⟨a, rfl, b⟩
  · rw [if_pos h0, if_pos h0]
    exact ⟨rfl, rfl, h⟩
theorem unlock_sim (h : Sim s r) (t n : Int) : (unlockR r t n).1 = (unlockF s t n).1 ∧ (unlockR r t n).2.1 = (unlockF s t n).2.1 ∧ Sim (unlockF s t n).2.2 (unlockR r t n).2.2 := by
  have ea : askedR r t (inR n r.M) = askL t [(n, s.ms.length)] s.wt := by rw [h.rel.eM]; exact asked_eq h.rel h.ws t (inR_bad n _)
  unfold unlockR unlockF
  rw [ea]
  by_cases h0 : askL t [(n, s.ms.length)] s.wt = 0
  · have hne : ¬ (askL t [(n, (s.ms.length : Int))] s.wt ≠ 0) := by simp [h0]
    rw [if_neg hne, if_neg hne]
    obtain ⟨ht, _, hb, hw⟩ := askL_ok h0
    have hin : inR n s.ms.length = true := by rw [inR_bad, hb]; rfl
    obtain ⟨en, hn⟩ := inR_nat hin
    obtain ⟨m, hm⟩ := get_ex (l := s.ms) hn
    obtain ⟨h1, _⟩ := h.rel.mrow hm
    rw [R8.row_of h1, hM_held ht]
    simp only [hm]
    by_cases ho : m.owner = t
    · rw [if_neg (show ¬ (m.owner == t) = false by simp [ho]), if_neg (show ¬ (m.owner ≠ t) by simp [ho])]
      obtain ⟨a, b⟩ := handS h hm ht ho
      exact ⟨a, rfl, b⟩
    · rw [if_pos (show (m.owner == t) = false by simpa using ho), if_pos ho]
      exact ⟨rfl, rfl, h⟩
  · rw [if_pos h0, if_pos h0]
    exact ⟨rfl, rfl, h⟩
end
end Full
end Go.Proofs.Ytibpbbjlecohiaa
set_option maxRecDepth 20000
namespace Go.Proofs.Ytibpbbjlecohiaa
namespace Full
open Go Go.Vc Go.RowKit
/-! # locks, conditions: the document's answer is the program's -/
def kd (b : Bool) : Int := if b then 5 else 3
theorem kd_ne (b : Bool) : (kd b == 0) = false := by cases b <;> rfl
theorem hL_may {l : Lk} (hw : l.writer = -1 ∨ (0 ≤ l.writer ∧ l.readers = [])) (t z : Int) (b : Bool) : mayW (hL l) (t, kd b, z) = mayF l b := by
  unfold hL mayF kd
  rcases hw with h | ⟨h, hr⟩
  · rw [h]
    cases hr : l.readers with
    | nil => cases b <;> rfl
    | cons a r => cases b <;> rfl
  · have h1 : decide (l.writer < 0) = false := by simp; omega
    rw [hr, if_pos h, h1]
    cases b <;> rfl
theorem give_ok' {l : Lk} {x : Wt} (hw : l.writer = -1 ∨ (0 ≤ l.writer ∧ l.readers = [])) (hm : mayF l x.write = true) (ht : 0 ≤ x.task) :
    hL (giveF l x) = hL l ++ [(x.task, kd x.write, 0)] ∧ ((giveF l x).writer = -1 ∨ (0 ≤ (giveF l x).writer ∧ (giveF l x).readers = [])) := by
  simp only [mayF, Bool.and_eq_true, Bool.or_eq_true, decide_eq_true_eq, beq_iff_eq, Bool.not_eq_true'] at hm
  have hw1 : l.writer = -1 := by omega
  unfold giveF
  cases hx : x.write with
  | true =>
    have hr : l.readers = [] := by
      rcases hm.2 with h | h
      · rw [hx] at h; cases h
      · exact List.eq_nil_of_length_eq_zero h
    rw [if_pos rfl]
    refine ⟨?_, .inr ⟨ht, hr⟩⟩
    simp [hL, hr, hw1, kd, ht]
  | false =>
    rw [if_neg (by simp)]
    refine ⟨?_, .inl hw1⟩
    simp [hL, hw1, kd]
def trL (x : Wt) : W3 := (x.task, kd x.write, 0)
theorem trW_l {M L i : Nat} (h : i < L) : trW M L (M + i) = trL := by
  funext x
  unfold trW trL kd
  have h1 : ¬ M + i < M := by omega
  have h2 : M + i < M + L := by omega
  simp only [h1, h2, if_true, if_false]
theorem pass_rows : ∀ (q : List Wt) (rs : List Int) (wr : Int) (q' : List Wt), (wr = -1 ∨ (0 ≤ wr ∧ rs = [])) → (∀ x ∈ q, 0 ≤ x.task) → passW (hL ⟨rs, wr, q'⟩) (q.map trL) = ((passG rs wr q).1, hL (passG rs wr q).2, (passG rs wr q).2.queue.map trL) ∧
    ((passG rs wr q).2.writer = -1 ∨ (0 ≤ (passG rs wr q).2.writer ∧ (passG rs wr q).2.readers = []))
  | [], rs, wr, q', hw, _ => ⟨rfl, hw⟩
  | x :: xs, rs, wr, q', hw, ht => by
    have hmay : mayW (hL ⟨rs, wr, q'⟩) (trL x) = mayF ⟨rs, wr, x :: xs⟩ x.write := (hL_may (l := ⟨rs, wr, q'⟩) hw x.task 0 x.write)
    rw [List.map_cons]
    unfold passW passG
    cases hm : mayF ⟨rs, wr, x :: xs⟩ x.write with
    | false =>
      rw [hm] at hmay
      rw [if_neg (by rw [hmay]; simp), if_neg (by simp)]
      exact ⟨rfl, hw⟩
    | true =>
      rw [hm] at hmay
      rw [if_pos hmay, if_pos rfl]
      obtain ⟨e, hw'⟩ := give_ok' (l := ⟨rs, wr, xs⟩) (x := x) hw hm (ht x (by simp))
      have e' : hL ⟨rs, wr, q'⟩ ++ [trL x] = hL ⟨(giveF ⟨rs, wr, xs⟩ x).readers, (giveF ⟨rs, wr, xs⟩ x).writer, []⟩ := e.symm
      obtain ⟨h1, h2⟩ := pass_rows xs (giveF ⟨rs, wr, xs⟩ x).readers (giveF ⟨rs, wr, xs⟩ x).writer [] hw' fun y hy => ht y (List.mem_cons_of_mem _ hy)
      rw [e', h1]
      exact ⟨rfl, h2⟩
theorem pass_qw {M L j : Nat} : ∀ (q : List Wt) (rs : List Int) (wr : Int) (qs : List (List Wt)) (wt : Int → Option W3), qs[j]? = some q → QW M L qs wt → (rs.Nodup ∧ (∀ x ∈ q, x.task ∉ rs) ∧ ∀ t ∈ rs, 0 ≤ t ∧ t < 16) →
    QW M L (qs.set j (passG rs wr q).2.queue) (unwait wt (passG rs wr q).1) ∧ (passG rs wr q).2.readers.Nodup ∧ (∀ x ∈ (passG rs wr q).2.queue, x.task ∉ (passG rs wr q).2.readers) ∧ ∀ t ∈ (passG rs wr q).2.readers, 0 ≤ t ∧ t < 16
  | [], rs, wr, qs, wt, hj, h, hr => ⟨by show QW M L (qs.set j []) wt; rw [set_same hj]; exact h, hr⟩
  | x :: xs, rs, wr, qs, wt, hj, h, hr => by
    unfold passG
    cases hm : mayF ⟨rs, wr, x :: xs⟩ x.write with
    | false =>
      rw [if_neg (by simp)]
      exact ⟨by show QW M L (qs.set j (x :: xs)) wt; rw [set_same hj]; exact h, hr⟩
    | true =>
      rw [if_pos rfl]
      have hp := h.pop hj
      have hx := h.tk _ (List.mem_of_getElem? hj) x (by simp)
      have hnd := h.nd _ (List.mem_of_getElem? hj)
      rw [List.map_cons, List.nodup_cons] at hnd
      have hr' : (giveF ⟨rs, wr, xs⟩ x).readers.Nodup ∧ (∀ y ∈ xs, y.task ∉ (giveF ⟨rs, wr, xs⟩ x).readers) ∧ ∀ t ∈ (giveF ⟨rs, wr, xs⟩ x).readers, 0 ≤ t ∧ t < 16 := by
        unfold giveF
        split
        · exact ⟨hr.1, fun y hy => hr.2.1 y (List.mem_cons_of_mem _ hy), hr.2.2⟩
        · refine ⟨List.nodup_append.2 ⟨hr.1, by simp, fun a ha b hb => ?_⟩, fun y hy hm' => ?_, fun t ht => ?_⟩
          · simp at hb; subst hb
            exact fun e => hr.2.1 x (by simp) (e ▸ ha)
          · rcases List.mem_append.1 hm' with hm' | hm'
            · exact hr.2.1 y (List.mem_cons_of_mem _ hy) hm'
            · simp at hm'
              exact hnd.1 (List.mem_map.2 ⟨y, hy, hm'⟩)
          · rcases List.mem_append.1 ht with ht | ht
            · exact hr.2.2 t ht
            · simp at ht; subst ht; exact hx
      obtain ⟨h1, h2⟩ := pass_qw xs (giveF ⟨rs, wr, xs⟩ x).readers (giveF ⟨rs, wr, xs⟩ x).writer (qs.set j xs) (updF wt x.task none) (List.getElem?_set_self (get_lt hj)) hp hr'
      rw [List.set_set] at h1
      exact ⟨h1, h2⟩
theorem giveF_w {l : Lk} {x : Wt} (h : l.writer < 16) (hx : x.task < 16) : (giveF l x).writer < 16 := by
  unfold giveF
  split
  · exact hx
  · exact h
theorem pass_w : ∀ (q : List Wt) (rs : List Int) (wr : Int), wr < 16 → (∀ x ∈ q, x.task < 16) → (passG rs wr q).2.writer < 16
  | [], _, _, h, _ => h
  | x :: xs, rs, wr, h, ht => by
    unfold passG
    split
    · exact pass_w xs _ _ (giveF_w (l := ⟨rs, wr, xs⟩) h (ht x (by simp))) fun y hy => ht y (List.mem_cons_of_mem _ hy)
    · exact h
section
variable {s : S8} {r : R8}
theorem idxI_mem (xs : List Int) (t : Int) : 0 ≤ idxI xs t ↔ t ∈ xs := by
  unfold idxI
  cases h : xs.findIdx? (· == t) with
  | none =>
    rw [List.findIdx?_eq_none_iff] at h
    refine ⟨fun h' => absurd (show (0 : Int) ≤ -1 from h') (by omega), fun h' => ?_⟩
    have := h t h'
    simp at this
  | some i =>
    obtain ⟨hi, hp, _⟩ := List.findIdx?_eq_some_iff_getElem.1 h
    refine ⟨fun _ => ?_, fun _ => Int.natCast_nonneg i⟩
    have : xs[i] = t := by simpa using hp
    rw [← this]; exact List.getElem_mem hi
theorem erase_filter {xs : List Int} {t : Int} (hn : xs.Nodup) (hm : t ∈ xs) : xs.take (idxI xs t).toNat ++ xs.drop ((idxI xs t).toNat + 1) = xs.filter fun y => y != t := by
  unfold idxI
  cases h : xs.findIdx? (· == t) with
  | none =>
    rw [List.findIdx?_eq_none_iff] at h
    have := h t hm
    simp at this
  | some i =>
    obtain ⟨hi, hp, hb⟩ := List.findIdx?_eq_some_iff_getElem.1 h
    have e : xs[i] = t := by simpa using hp
    show xs.take ((i : Int)).toNat ++ xs.drop (((i : Int)).toNat + 1) = _
    rw [Int.toNat_natCast]
    have hs : xs = xs.take i ++ t :: xs.drop (i + 1) := by
      have := List.drop_eq_getElem_cons hi
      rw [← e, ← this, List.take_append_drop]
    have hs' := hn
    rw [hs] at hs'
    obtain ⟨_, n2, n3⟩ := List.nodup_append.1 hs'
    obtain ⟨n4, _⟩ := List.nodup_cons.1 n2
    conv => rhs; rw [hs]
    rw [List.filter_append, List.filter_cons_of_neg (by simp)]
    congr 1
    · exact (List.filter_eq_self.2 fun a ha => by simp; exact n3 a ha t (by simp)).symm
    · exact (List.filter_eq_self.2 fun a ha => by simp; exact fun e => n4 (e ▸ ha)).symm
theorem heldL0 {l : Lk} {t : Int} (ht : 0 ≤ t) : heldW (hL l) t 0 = hasF l t := by
  rw [Bool.eq_iff_iff]
  simp only [heldW, hL, hasF, List.any_append, List.any_map, Bool.or_eq_true, List.any_eq_true, beq_iff_eq, decide_eq_true_eq, ge_iff_le, idxI_mem]
  constructor
  · rintro (⟨x, hx, e⟩ | ⟨x, hx, e⟩)
    · simp at e; subst e; exact .inr hx
    · split at hx
      · simp at hx; subst hx; simp at e; exact .inl e
      · simp at hx
  · rintro (h | h)
    · exact .inr ⟨(l.writer, 5, 0), by rw [if_pos (by omega)]; simp, by simp [h]⟩
    · exact .inl ⟨t, h, by simp⟩
theorem heldL3 {l : Lk} {t : Int} : heldW (hL l) t 3 = decide (0 ≤ idxI l.readers t) := by
  rw [Bool.eq_iff_iff]
  simp only [heldW, hL, List.any_append, List.any_map, Bool.or_eq_true, List.any_eq_true, decide_eq_true_eq, idxI_mem]
  constructor
  · rintro (⟨x, hx, e⟩ | ⟨x, hx, e⟩)
    · simp at e; subst e; exact hx
    · split at hx
      · simp at hx; subst hx; simp at e
      · simp at hx
  · intro h
    exact .inl ⟨t, h, by simp⟩
theorem heldL5 {l : Lk} {t : Int} (ht : 0 ≤ t) : heldW (hL l) t 5 = (l.writer == t) := by
  rw [Bool.eq_iff_iff]
  simp only [heldW, hL, List.any_append, List.any_map, Bool.or_eq_true, List.any_eq_true, beq_iff_eq]
  constructor
  · rintro (⟨x, hx, e⟩ | ⟨x, hx, e⟩)
    · simp at e
    · split at hx
      · simp at hx; subst hx; simp at e; exact e
      · simp at hx
  · intro h
    exact .inr ⟨(l.writer, 5, 0), by rw [if_pos (by omega)]; simp, by simp [h]⟩
theorem askL_in {t n : Int} {k : Nat} (h0 : askL t [(n, (k : Int))] s.wt = 0) : (0 ≤ t ∧ t < 16) ∧ s.wt t = none ∧ n = (n.toNat : Int) ∧ n.toNat < k := by
  obtain ⟨ht, ht16, hb, hw⟩ := askL_ok h0
  have hin : inR n k = true := by rw [inR_bad, hb]; rfl
  exact ⟨⟨ht, ht16⟩, hw, inR_nat hin⟩
theorem take_sim (h : Sim s r) (t n : Int) (b : Bool) : (takeLR r t n (kd b)).1 = (takeF s t n (kd b)).1 ∧ (takeLR r t n (kd b)).2.1 = (takeF s t n (kd b)).2.1 ∧ Sim (takeF s t n (kd b)).2.2 (takeLR r t n (kd b)).2.2 := by
  have ea : askedR r t (inR n r.L) = askL t [(n, s.ls.length)] s.wt := by rw [h.rel.eL]; exact asked_eq h.rel h.ws t (inR_bad n _)
  have eb : (kd b == 5) = b := by cases b <;> rfl
  unfold takeLR takeF
  rw [ea, eb]
  by_cases h0 : askL t [(n, s.ls.length)] s.wt = 0
  · have hne : ¬ (askL t [(n, (s.ls.length : Int))] s.wt ≠ 0) := by simp [h0]
    rw [if_neg hne, if_neg hne]
    obtain ⟨ht, hw, en, hn⟩ := askL_in h0
    obtain ⟨l, hl⟩ := get_ex (l := s.ls) hn
    obtain ⟨h1, h2⟩ := h.rel.lrow hl
    rw [trW_l hn] at h2
    rw [h.rel.eM, R8.row_of h1, heldL0 ht.1]
    simp only [hl]
    have hlm := List.mem_of_getElem? hl
    cases hh : hasF l t with
    | true => rw [if_pos rfl, if_pos rfl]; exact ⟨rfl, rfl, h⟩
    | false =>
      rw [if_neg (by simp), if_neg (by simp)]
      have hnr : t ∉ l.readers := fun hm => by
        have : hasF l t = true := by
          simp only [hasF, Bool.or_eq_true, decide_eq_true_eq]
          exact .inr ((idxI_mem _ _).2 hm)
        rw [hh] at this; cases this
      have hmay := hL_may (h.ws.wr l hlm) t 0 b
      have eq0 : l.queue.map trL = [] ↔ l.queue.length = 0 := by simp
      by_cases hc : l.queue.length = 0 ∧ mayF l b = true
      · obtain ⟨hq, hm⟩ := hc
        have hq' : l.queue = [] := List.eq_nil_of_length_eq_zero hq
        obtain ⟨e1, e2⟩ := give_ok' (l := l) (x := ⟨t, b, 0⟩) (h.ws.wr l hlm) hm ht.1
        have et : takeR r (s.ms.length + n.toNat) (t, kd b, 0) = (true, { r with rows := (r.rows.set (2 * (s.ms.length + n.toNat)) (hL (giveF l ⟨t, b, 0⟩))).set (2 * (s.ms.length + n.toNat) + 1) ((giveF l ⟨t, b, 0⟩).queue.map (trW s.ms.length s.ls.length (s.ms.length + n.toNat))) }) := by
          unfold takeR
          rw [R8.row_of h1, R8.row_of h2, if_pos (show l.queue.map trL = [] ∧ mayW (hL l) (t, kd b, 0) = true from ⟨by rw [hq']; rfl, by rw [hmay]; exact hm⟩), e1, giveF_queue, trW_l hn]
          rw [R8.put2 r (i := s.ms.length + n.toNat) (x := hL l ++ [(t, kd b, 0)]) h2]
        rw [et, if_pos ⟨hq, hm⟩]
        refine ⟨rfl, rfl, h.rel.setL hl (giveF l ⟨t, b, 0⟩) s.wt, h.ws.setL hn (l' := giveF l ⟨t, b, 0⟩) (wt' := s.wt) e2 ?_ (giveF_w (h.ws.hw l hlm) ht.2) ?_⟩
        · have hrd := h.ws.rd l hlm
          rw [giveF_queue, hq']
          refine ⟨?_, fun x hx => by simp at hx, ?_⟩
          · unfold giveF
            split
            · exact hrd.1
            · refine List.nodup_append.2 ⟨hrd.1, by simp, fun a ha c hc' => ?_⟩
              simp at hc'; subst hc'
              exact fun e => hnr (e ▸ ha)
          · unfold giveF
            split
            · exact hrd.2.2
            · intro u hu
              rcases List.mem_append.1 hu with hu | hu
              · exact hrd.2.2 u hu
              · simp at hu; subst hu; exact ht
        · rw [giveF_queue, set_same (qs_l hl)]; exact h.ws.qw
      · have hc' : ¬ (l.queue.map trL = [] ∧ mayW (hL l) (t, kd b, 0) = true) := by rw [eq0, hmay]; exact hc
        have et : takeR r (s.ms.length + n.toNat) (t, kd b, 0) = (false, { r with rows := (r.rows.set (2 * (s.ms.length + n.toNat)) (hL ⟨l.readers, l.writer, l.queue ++ [⟨t, b, 0⟩]⟩)).set (2 * (s.ms.length + n.toNat) + 1) ((l.queue ++ [(⟨t, b, 0⟩ : Wt)]).map (trW s.ms.length s.ls.length (s.ms.length + n.toNat))) }) := by
          unfold takeR
          rw [R8.row_of h1, R8.row_of h2, if_neg hc']
          rw [R8.put1 r (i := s.ms.length + n.toNat) (x := l.queue.map trL ++ [(t, kd b, 0)]) h1, trW_l hn, List.map_append]
          rfl
        rw [et, if_neg hc]
        have hpush := h.ws.qw.push (qs_l hl) ⟨t, b, 0⟩ hw ht
        have hen : ent s.ms.length s.ls.length (s.ms.length + n.toNat) ⟨t, b, 0⟩ = (t, kd b, n) := by
          unfold ent kd
          rw [if_neg (by omega), if_pos (by omega), show s.ms.length + n.toNat - s.ms.length = n.toNat by omega, ← en]
        rw [hen] at hpush
        have hrd := h.ws.rd l hlm
        refine ⟨rfl, rfl, h.rel.setL hl ⟨l.readers, l.writer, l.queue ++ [⟨t, b, 0⟩]⟩ (updF s.wt t (some (t, kd b, n))), h.ws.setL hn (l' := ⟨l.readers, l.writer, l.queue ++ [⟨t, b, 0⟩]⟩) (h.ws.wr l hlm) (show l.readers.Nodup ∧ (∀ x ∈ l.queue ++ [(⟨t, b, 0⟩ : Wt)], x.task ∉ l.readers) ∧ ∀ t ∈ l.readers, 0 ≤ t ∧ t < 16 from ⟨hrd.1, fun x hx => ?_, hrd.2.2⟩) (h.ws.hw l hlm) hpush⟩
        rcases List.mem_append.1 hx with hx | hx
        · exact hrd.2.1 x hx
        · simp at hx; subst hx; exact hnr
  · rw [if_pos h0, if_pos h0]
    exact ⟨rfl, rfl, h⟩
/-- a lock is given back -/
theorem giveS (h : Sim s r) {i : Nat} {l l0 : Lk} (hl : s.ls[i]? = some l) {t : Int} (e0 : hL l0 = (hL l).filter fun y => y.1 != t) (eq0 : l0.queue = l.queue) (hw : l0.writer = -1 ∨ (0 ≤ l0.writer ∧ l0.readers = [])) (hr : l0.readers.Nodup ∧ (∀ x ∈ l.queue, x.task ∉ l0.readers) ∧ ∀ t ∈ l0.readers, 0 ≤ t ∧ t < 16) (h16 : l0.writer < 16) :
    (giveR r (s.ms.length + i) t).1 = (passS s i l0).1 ∧ Sim (passS s i l0).2 (giveR r (s.ms.length + i) t).2 := by
  have hi := get_lt hl
  obtain ⟨h1, h2⟩ := h.rel.lrow hl
  rw [trW_l hi] at h2
  obtain ⟨rs, wr, q⟩ := l0
  simp only at eq0
  subst eq0
  have htk : ∀ x ∈ l.queue, 0 ≤ x.task := fun x hx => (h.ws.qw.tk _ (List.mem_of_getElem? (qs_l hl)) x hx).1
  obtain ⟨e1, e2⟩ := pass_rows l.queue rs wr l.queue hw htk
  obtain ⟨e3, e4⟩ := pass_qw (j := s.ms.length + i) l.queue rs wr s.qs s.wt (qs_l hl) h.ws.qw hr
  have eg : giveR r (s.ms.length + i) t = ((passG rs wr l.queue).1, { r with rows := (r.rows.set (2 * (s.ms.length + i)) (hL (passG rs wr l.queue).2)).set (2 * (s.ms.length + i) + 1) ((passG rs wr l.queue).2.queue.map (trW s.ms.length s.ls.length (s.ms.length + i))) }) := by
    unfold giveR
    rw [R8.row_of h1, R8.row_of h2, ← e0, e1, trW_l hi]
    rfl
  rw [eg]
  exact ⟨rfl, h.rel.setL hl (passG rs wr l.queue).2 (unwait s.wt (passG rs wr l.queue).1), h.ws.setL hi (l' := (passG rs wr l.queue).2) e2 e4 (pass_w l.queue rs wr h16 fun x hx => (h.ws.qw.tk _ (List.mem_of_getElem? (qs_l hl)) x hx).2) e3⟩
theorem run_sim (h : Sim s r) (t n : Int) : (giveLR r t n 3).1 = (runF s t n).1 ∧ (giveLR r t n 3).2.1 = (runF s t n).2.1 ∧ Sim (runF s t n).2.2 (giveLR r t n 3).2.2 := by
  have ea : askedR r t (inR n r.L) = askL t [(n, s.ls.length)] s.wt := by rw [h.rel.eL]; exact asked_eq h.rel h.ws t (inR_bad n _)
  unfold giveLR runF
  rw [ea]
  by_cases h0 : askL t [(n, s.ls.length)] s.wt = 0
  · have hne : ¬ (askL t [(n, (s.ls.length : Int))] s.wt ≠ 0) := by simp [h0]
    rw [if_neg hne, if_neg hne]
    obtain ⟨ht, hw, en, hn⟩ := askL_in h0
    obtain ⟨l, hl⟩ := get_ex (l := s.ls) hn
    obtain ⟨h1, h2⟩ := h.rel.lrow hl
    rw [h.rel.eM, R8.row_of h1, heldL3]
    simp only [hl]
    have hlm := List.mem_of_getElem? hl
    by_cases hi : 0 ≤ idxI l.readers t
    · rw [if_neg (by simp [hi]), if_neg (by omega)]
      have hm := (idxI_mem _ _).1 hi
      have hrd := h.ws.rd l hlm
      have ef := erase_filter hrd.1 hm
      have hw1 : l.writer = -1 := by
        rcases h.ws.wr l hlm with h | ⟨_, h⟩
        · exact h
        · rw [h] at hm; simp at hm
      obtain ⟨a, b⟩ := giveS h hl (l0 := ⟨l.readers.take (idxI l.readers t).toNat ++ l.readers.drop ((idxI l.readers t).toNat + 1), l.writer, l.queue⟩) (t := t) (by
        rw [ef]
        simp only [hL, hw1]
        rw [if_neg (by omega), List.append_nil, List.append_nil, List.filter_map]
        rfl) rfl (.inl hw1) (by
        show (_ : List Int).Nodup ∧ _
        rw [ef]
        exact ⟨hrd.1.sublist List.filter_sublist, fun x hx hx' => hrd.2.1 x hx (List.mem_filter.1 hx').1, fun u hu => hrd.2.2 u (List.mem_filter.1 hu).1⟩) (h.ws.hw l hlm)
      exact ⟨a, rfl, b⟩
    · rw [if_pos (by simpa using hi), if_pos (by omega)]
      exact ⟨rfl, rfl, h⟩
  · rw [if_pos h0, if_pos h0]
    exact ⟨rfl, rfl, h⟩
theorem wun_sim (h : Sim s r) (t n : Int) : (giveLR r t n 5).1 = (wunF s t n).1 ∧ (giveLR r t n 5).2.1 = (wunF s t n).2.1 ∧ Sim (wunF s t n).2.2 (giveLR r t n 5).2.2 := by
  have ea : askedR r t (inR n r.L) = askL t [(n, s.ls.length)] s.wt := by rw [h.rel.eL]; exact asked_eq h.rel h.ws t (inR_bad n _)
  unfold giveLR wunF
  rw [ea]
  by_cases h0 : askL t [(n, s.ls.length)] s.wt = 0
  · have hne : ¬ (askL t [(n, (s.ls.length : Int))] s.wt ≠ 0) := by simp [h0]
    rw [if_neg hne, if_neg hne]
    obtain ⟨ht, hw, en, hn⟩ := askL_in h0
    obtain ⟨l, hl⟩ := get_ex (l := s.ls) hn
    obtain ⟨h1, h2⟩ := h.rel.lrow hl
    rw [h.rel.eM, R8.row_of h1, heldL5 ht.1]
    simp only [hl]
    have hlm := List.mem_of_getElem? hl
    by_cases ho : l.writer = t
    · rw [if_neg (show ¬ (l.writer == t) = false by simp [ho]), if_neg (show ¬ (l.writer ≠ t) by simp [ho])]
      have hrd := h.ws.rd l hlm
      have hr0 : l.readers = [] := by
        rcases h.ws.wr l hlm with h | ⟨_, h⟩
        · omega
        · exact h
      obtain ⟨a, b⟩ := giveS h hl (l0 := ⟨l.readers, -1, l.queue⟩) (t := t) (by
        simp [hL, hr0, ho, ht.1]) rfl (.inl rfl) hrd (by show (-1 : Int) < 16; decide)
      exact ⟨a, rfl, b⟩
    · rw [if_pos (show (l.writer == t) = false by simpa using ho), if_pos ho]
      exact ⟨rfl, rfl, h⟩
  · rw [if_pos h0, if_pos h0]
    exact ⟨rfl, rfl, h⟩
end
end Full
end Go.Proofs.Ytibpbbjlecohiaa
set_option maxRecDepth 20000
namespace Go.Proofs.Ytibpbbjlecohiaa
namespace Full
open Go Go.Vc Go.RowKit
section
variable {s : S8} {r : R8}
theorem handF_keep (s : S8) (i : Nat) (m : Mx) : (handF s i m).2.cs = s.cs ∧ (handF s i m).2.ls = s.ls ∧ (handF s i m).2.ms.length = s.ms.length ∧ (handF s i m).2.ns = s.ns ∧ ∀ t, s.wt t = none → (handF s i m).2.wt t = none := by
  unfold handF
  cases m.queue with
  | nil => exact ⟨rfl, rfl, by simp, rfl, fun t h => h⟩
  | cons x xs =>
    refine ⟨rfl, rfl, by simp, rfl, fun t h => ?_⟩
    show updF s.wt x.task none t = none
    unfold updF
    split
    · rfl
    · exact h
theorem trW_c {M L i : Nat} : trW M L (M + L + i) = fun x : Wt => (x.task, 7, x.mutex) := by
  funext x
  unfold trW
  have h1 : ¬ M + L + i < M := by omega
  have h2 : ¬ M + L + i < M + L := by omega
  simp only [h1, h2, if_false]
theorem wait_sim (h : Sim s r) (t n m : Int) : (waitR r t n m).1 = (waitF s t n m).1 ∧ (waitR r t n m).2.1 = (waitF s t n m).2.1 ∧ Sim (waitF s t n m).2.2 (waitR r t n m).2.2 := by
  have ea : askedR r t (inR n r.C && inR m r.M) = askL t [(n, s.cs.length), (m, s.ms.length)] s.wt := by rw [h.rel.eC, h.rel.eM]; exact asked_eq h.rel h.ws t (inR_bad2 n m _ _)
  unfold waitR waitF
  rw [ea]
  by_cases h0 : askL t [(n, s.cs.length), (m, s.ms.length)] s.wt = 0
  · have hne : ¬ (askL t [(n, (s.cs.length : Int)), (m, (s.ms.length : Int))] s.wt ≠ 0) := by simp [h0]
    rw [if_neg hne, if_neg hne]
    obtain ⟨ht, ht16, hb, hw⟩ := askL_ok h0
    have hin : (inR n s.cs.length && inR m s.ms.length) = true := by rw [inR_bad2, hb]; rfl
    rw [Bool.and_eq_true] at hin
    obtain ⟨en, hn⟩ := inR_nat hin.1
    obtain ⟨em, hm⟩ := inR_nat hin.2
    obtain ⟨mx, hmx⟩ := get_ex (l := s.ms) hm
    obtain ⟨xs, hxs⟩ := get_ex (l := s.cs) hn
    obtain ⟨h1, _⟩ := h.rel.mrow hmx
    rw [R8.row_of h1, hM_held ht]
    simp only [hmx, hxs]
    by_cases ho : mx.owner = t
    · rw [if_neg (show ¬ (mx.owner == t) = false by simp [ho]), if_neg (show ¬ (mx.owner ≠ t) by simp [ho])]
      obtain ⟨a, b⟩ := handS h hmx ht ho
      obtain ⟨k1, k2, k3, k4, k5⟩ := handF_keep s m.toNat mx
      refine ⟨a, rfl, ?_⟩
      have hcs : (handF s m.toNat mx).2.cs[n.toNat]? = some xs := by rw [k1]; exact hxs
      have hrow := b.rel.crow hcs
      have eM := b.rel.eM
      have eL := b.rel.eL
      have eM' : (giveR r m.toNat t).2.M = r.M := rfl
      have eL' : (giveR r m.toNat t).2.L = r.L := rfl
      have hpush := b.ws.qw.push (qs_c hcs) ⟨t, false, m⟩ (k5 t hw) ⟨ht, ht16⟩
      have hen : ent (handF s m.toNat mx).2.ms.length (handF s m.toNat mx).2.ls.length ((handF s m.toNat mx).2.ms.length + (handF s m.toNat mx).2.ls.length + n.toNat) ⟨t, false, m⟩ = (t, 7, n) := by
        unfold ent
        rw [if_neg (by omega), if_neg (by omega), show (handF s m.toNat mx).2.ms.length + (handF s m.toNat mx).2.ls.length + n.toNat - (handF s m.toNat mx).2.ms.length - (handF s m.toNat mx).2.ls.length = n.toNat by omega, ← en]
      rw [hen] at hpush
      have e3 : (giveR r m.toNat t).2.put (2 * (r.M + r.L) + n.toNat) ((giveR r m.toNat t).2.row (2 * (r.M + r.L) + n.toNat) ++ [(t, 7, m)]) = { (giveR r m.toNat t).2 with rows := (giveR r m.toNat t).2.rows.set (2 * ((handF s m.toNat mx).2.ms.length + (handF s m.toNat mx).2.ls.length) + n.toNat) ((xs ++ [(⟨t, false, m⟩ : Wt)]).map (trW (handF s m.toNat mx).2.ms.length (handF s m.toNat mx).2.ls.length ((handF s m.toNat mx).2.ms.length + (handF s m.toNat mx).2.ls.length + n.toNat))) } := by
        rw [← eM', ← eL', eM, eL, R8.row_of hrow, trW_c, List.map_append]
        rfl
      rw [e3]
      have hs := b.rel.setC hcs (xs ++ [⟨t, false, m⟩]) (updF (handF s m.toNat mx).2.wt t (some (t, 7, n)))
      have hws := b.ws.setC (i := n.toNat) (q' := xs ++ [⟨t, false, m⟩]) (wt' := updF (handF s m.toNat mx).2.wt t (some (t, 7, n))) (fun x hx => by
        rcases List.mem_append.1 hx with hx | hx
        · exact b.ws.mu xs (List.mem_of_getElem? hcs) x hx
        · simp at hx; subst hx
          show 0 ≤ m ∧ m < _
          rw [k3]; omega) hpush
      rw [k1] at hs hws
      exact ⟨hs, hws⟩
    · rw [if_pos (show (mx.owner == t) = false by simpa using ho), if_pos ho]
      exact ⟨rfl, rfl, h⟩
  · rw [if_pos h0, if_pos h0]
    exact ⟨rfl, rfl, h⟩
theorem let_sim (h : Sim s r) (i : Nat) : (letR r i).1 = (letS s i).1 ∧ Sim (letS s i).2 (letR r i).2 := by
  unfold letR letS
  cases hc : s.cs[i]? with
  | none =>
    have : r.row (2 * (r.M + r.L) + i) = [] := by
      unfold R8.row
      rw [List.getElem?_eq_none (by
        have := List.getElem?_eq_none_iff.1 hc
        rw [h.rel.rl, h.rel.eM, h.rel.eL]; omega)]
      rfl
    rw [this]
    exact ⟨rfl, h⟩
  | some q =>
    have hrow := h.rel.crow hc
    rw [trW_c] at hrow
    have er : r.row (2 * (r.M + r.L) + i) = q.map fun x : Wt => (x.task, 7, x.mutex) := by rw [h.rel.eM, h.rel.eL]; exact R8.row_of hrow
    rw [er]
    cases q with
    | nil => exact ⟨rfl, h⟩
    | cons x xs =>
      have hqc := qs_c hc
      have hxt := h.ws.qw.tk _ (List.mem_of_getElem? hqc) x (by simp)
      have hmu := h.ws.mu _ (List.mem_of_getElem? hc) x (by simp)
      obtain ⟨mx, hmx⟩ := get_ex (l := s.ms) (i := x.mutex.toNat) (by omega)
      have eem : ((x.mutex.toNat : Nat) : Int) = x.mutex := by omega
      simp only [List.map_cons, hmx]
      have hpop := h.ws.qw.pop hqc
      have s1 : Sim { s with cs := s.cs.set i xs, wt := updF s.wt x.task none } (r.put (2 * (r.M + r.L) + i) (xs.map fun x : Wt => (x.task, 7, x.mutex))) := by
        refine ⟨?_, h.ws.setC (i := i) (q' := xs) (wt' := updF s.wt x.task none) (fun y hy => h.ws.mu _ (List.mem_of_getElem? hc) y (List.mem_cons_of_mem _ hy)) hpop⟩
        have := h.rel.setC hc xs (updF s.wt x.task none)
        rw [trW_c] at this
        rw [h.rel.eM, h.rel.eL]
        exact this
      obtain ⟨a, b⟩ := takeM s1 (i := x.mutex.toNat) (m := mx) hmx hxt (by simp [updF]) x rfl
      unfold letF
      by_cases ho : mx.owner = -1
      · obtain ⟨a1, a2⟩ := a ho
        rw [if_neg (show ¬ 0 ≤ mx.owner by omega)]
        refine ⟨by rw [a1]; rfl, ?_⟩
        exact a2
      · obtain ⟨b1, b2⟩ := b ho
        have ho' : 0 ≤ mx.owner := by
          rcases h.ws.own mx (List.mem_of_getElem? hmx) with h | h
          · exact h
          · exact absurd h.1 ho
        rw [if_pos ho']
        refine ⟨by rw [b1]; rfl, ?_⟩
        have eu : updF (updF s.wt x.task none) x.task (some (x.task, 1, ((x.mutex.toNat : Nat) : Int))) = updF s.wt x.task (some (x.task, 1, x.mutex)) := by
          funext y
          unfold updF
          rw [eem]
          split <;> rfl
        have b3 : Sim { s with cs := s.cs.set i xs, wt := updF (updF s.wt x.task none) x.task (some (x.task, 1, ((x.mutex.toNat : Nat) : Int))), ms := s.ms.set x.mutex.toNat ⟨mx.owner, mx.queue ++ [x]⟩ } _ := b2
        rw [eu] at b3
        exact b3
theorem sig_sim (h : Sim s r) (t n : Int) : (sigR r t n).1 = (sigF s t n).1 ∧ (sigR r t n).2.1 = (sigF s t n).2.1 ∧ Sim (sigF s t n).2.2 (sigR r t n).2.2 := by
  have ea : askedR r t (inR n r.C) = askL t [(n, s.cs.length)] s.wt := by rw [h.rel.eC]; exact asked_eq h.rel h.ws t (inR_bad n _)
  unfold sigR sigF
  rw [ea]
  by_cases h0 : askL t [(n, s.cs.length)] s.wt = 0
  · have hne : ¬ (askL t [(n, (s.cs.length : Int))] s.wt ≠ 0) := by simp [h0]
    rw [if_neg hne, if_neg hne]
    obtain ⟨a, b⟩ := let_sim h n.toNat
    exact ⟨a, rfl, b⟩
  · rw [if_pos h0, if_pos h0]
    exact ⟨rfl, rfl, h⟩
theorem letN_sim : ∀ (k : Nat) {s : S8} {r : R8} (_ : Sim s r) (i : Nat), (letNR k r i).1 = (letN k s i).1 ∧ Sim (letN k s i).2 (letNR k r i).2
  | 0, _, _, h, _ => ⟨rfl, h⟩
  | k + 1, s, r, h, i => by
    obtain ⟨a, b⟩ := let_sim h i
    obtain ⟨c, d⟩ := letN_sim k b i
    simp only [letNR, letN]
    exact ⟨by rw [a, c], d⟩
theorem bro_sim (h : Sim s r) (t n : Int) : (broR r t n).1 = (broF s t n).1 ∧ (broR r t n).2.1 = (broF s t n).2.1 ∧ Sim (broF s t n).2.2 (broR r t n).2.2 := by
  have ea : askedR r t (inR n r.C) = askL t [(n, s.cs.length)] s.wt := by rw [h.rel.eC]; exact asked_eq h.rel h.ws t (inR_bad n _)
  unfold broR broF
  rw [ea]
  by_cases h0 : askL t [(n, s.cs.length)] s.wt = 0
  · have hne : ¬ (askL t [(n, (s.cs.length : Int))] s.wt ≠ 0) := by simp [h0]
    rw [if_neg hne, if_neg hne]
    have hl : (r.row (2 * (r.M + r.L) + n.toNat)).length = lenQ s n.toNat := by
      unfold lenQ
      cases hc : s.cs[n.toNat]? with
      | none =>
        unfold R8.row
        rw [List.getElem?_eq_none (by
          have := List.getElem?_eq_none_iff.1 hc
          rw [h.rel.rl, h.rel.eM, h.rel.eL]; omega)]
        rfl
      | some q =>
        have hrow := h.rel.crow hc
        rw [h.rel.eM, h.rel.eL, R8.row_of hrow]
        simp
    rw [hl]
    obtain ⟨a, b⟩ := letN_sim (lenQ s n.toNat) h n.toNat
    exact ⟨a, rfl, b⟩
  · rw [if_pos h0, if_pos h0]
    exact ⟨rfl, rfl, h⟩
theorem add_sim (h : Sim s r) (t n b : Int) : (addR r t n b).1 = (addF s t n b).1 ∧ (addR r t n b).2.1 = (addF s t n b).2.1 ∧ Sim (addF s t n b).2.2 (addR r t n b).2.2 := by
  have ea : askedR r t (inR n r.ns.length) = askL t [(n, s.ns.length)] s.wt := by rw [h.rel.en]; exact asked_eq h.rel h.ws t (inR_bad n _)
  unfold addR addF
  rw [ea, h.rel.en]
  by_cases h0 : askL t [(n, s.ns.length)] s.wt = 0
  · have hne : ¬ (askL t [(n, (s.ns.length : Int))] s.wt ≠ 0) := by simp [h0]
    rw [if_neg hne, if_neg hne]
    cases hn : s.ns[n.toNat]? with
    | none => exact ⟨rfl, rfl, h⟩
    | some v =>
      refine ⟨rfl, rfl, ⟨⟨h.rel.eM, h.rel.eL, h.rel.eC, rfl, h.rel.rl, h.rel.hm, h.rel.hl, h.rel.q⟩, ⟨h.ws.own, h.ws.wr, h.ws.rd, h.ws.mu, h.ws.ho, h.ws.hw, h.ws.qw⟩⟩⟩
  · rw [if_pos h0, if_pos h0]
    exact ⟨rfl, rfl, h⟩
/-- each call -/
theorem must_sim (h : Sim s r) (t k n m : Int) : (mustR r t k n m).1 = (doesF s t k n m).1 ∧ Sim (doesF s t k n m).2 (mustR r t k n m).2 := by
  unfold mustR doesF
  by_cases h1 : k = 1
  · obtain ⟨a, b, c⟩ := lock_sim h t n
    rw [if_pos h1, if_pos h1, a, b]; exact ⟨rfl, c⟩
  rw [if_neg h1, if_neg h1]
  by_cases h1 : k = 2
  · obtain ⟨a, b, c⟩ := unlock_sim h t n
    rw [if_pos h1, if_pos h1, a, b]; exact ⟨rfl, c⟩
  rw [if_neg h1, if_neg h1]
  by_cases h1 : k = 3
  · obtain ⟨a, b, c⟩ : (takeLR r t n 3).1 = (takeF s t n 3).1 ∧ (takeLR r t n 3).2.1 = (takeF s t n 3).2.1 ∧ Sim (takeF s t n 3).2.2 (takeLR r t n 3).2.2 := take_sim h t n false
    rw [if_pos h1, if_pos h1, a, b]; exact ⟨rfl, c⟩
  rw [if_neg h1, if_neg h1]
  by_cases h1 : k = 4
  · obtain ⟨a, b, c⟩ := run_sim h t n
    rw [if_pos h1, if_pos h1, a, b]; exact ⟨rfl, c⟩
  rw [if_neg h1, if_neg h1]
  by_cases h1 : k = 5
  · obtain ⟨a, b, c⟩ : (takeLR r t n 5).1 = (takeF s t n 5).1 ∧ (takeLR r t n 5).2.1 = (takeF s t n 5).2.1 ∧ Sim (takeF s t n 5).2.2 (takeLR r t n 5).2.2 := take_sim h t n true
    rw [if_pos h1, if_pos h1, a, b]; exact ⟨rfl, c⟩
  rw [if_neg h1, if_neg h1]
  by_cases h1 : k = 6
  · obtain ⟨a, b, c⟩ := wun_sim h t n
    rw [if_pos h1, if_pos h1, a, b]; exact ⟨rfl, c⟩
  rw [if_neg h1, if_neg h1]
  by_cases h1 : k = 7
  · obtain ⟨a, b, c⟩ := wait_sim h t n m
    rw [if_pos h1, if_pos h1, a, b]; exact ⟨rfl, c⟩
  rw [if_neg h1, if_neg h1]
  by_cases h1 : k = 8
  · obtain ⟨a, b, c⟩ := sig_sim h t n
    rw [if_pos h1, if_pos h1, a, b]; exact ⟨rfl, c⟩
  rw [if_neg h1, if_neg h1]
  by_cases h1 : k = 9
  · obtain ⟨a, b, c⟩ := bro_sim h t n
    rw [if_pos h1, if_pos h1, a, b]; exact ⟨rfl, c⟩
  rw [if_neg h1, if_neg h1]
  by_cases h1 : k = 10
  · obtain ⟨a, b, c⟩ := add_sim h t n m
    rw [if_pos h1, if_pos h1, a, b]; exact ⟨rfl, c⟩
  rw [if_neg h1, if_neg h1]
  exact ⟨rfl, h⟩
end
end Full
end Go.Proofs.Ytibpbbjlecohiaa
set_option maxRecDepth 20000
namespace Go.Proofs.Ytibpbbjlecohiaa
namespace Full
open Go Go.Vc Go.RowKit
/-! # who waits behind a call (plain) -/
structure WE (f : Int → Option W3) (ws : List Int) (f' : Int → Option W3) : Prop where
  nd : ws.Nodup
  dm : ∀ x ∈ ws, (f x).isSome = true
  eq : ∀ x, (f' x).isSome = true ↔ (f x).isSome = true ∧ x ∉ ws
theorem WE.refl (f : Int → Option W3) : WE f [] f := ⟨List.nodup_nil, fun x hx => by simp at hx, fun x => by simp⟩
theorem WE.trans {f g h : Int → Option W3} {ws vs : List Int} (a : WE f ws g) (b : WE g vs h) : WE f (ws ++ vs) h := by
  refine ⟨List.nodup_append.2 ⟨a.nd, b.nd, fun x hx y hy e => ?_⟩, fun x hx => ?_, fun x => ?_⟩
  · subst e
    exact ((a.eq x).1 (b.dm x hy)).2 hx
  · rcases List.mem_append.1 hx with hx | hx
    · exact a.dm x hx
    · exact ((a.eq x).1 (b.dm x hx)).1
  · rw [b.eq, a.eq, List.mem_append]
    constructor
    · rintro ⟨⟨h1, h2⟩, h3⟩
      exact ⟨h1, fun h => h.elim h2 h3⟩
    · rintro ⟨h1, h2⟩
      exact ⟨⟨h1, fun h => h2 (.inl h)⟩, fun h => h2 (.inr h)⟩
theorem WE.one {f : Int → Option W3} {x : Int} (h : (f x).isSome = true) : WE f [x] (updF f x none) := by
  refine ⟨by simp, fun y hy => by simp at hy; subst hy; exact h, fun y => ?_⟩
  unfold updF
  by_cases e : y = x
  · subst e; simp
  · rw [if_neg e]; simp [e]
theorem WE.keep {f : Int → Option W3} {x : Int} (h : (f x).isSome = true) (v : W3) : WE f [] (updF f x (some v)) := by
  refine ⟨List.nodup_nil, fun y hy => by simp at hy, fun y => ?_⟩
  unfold updF
  by_cases e : y = x
  · subst e; simp [h]
  · rw [if_neg e]; simp
section
variable {s : S8} {r : R8}
theorem QW.in_wt {M L : Nat} {qs : List (List Wt)} {wt : Int → Option W3} (h : QW M L qs wt) {j : Nat} {q : List Wt} (hj : qs[j]? = some q) {x : Wt} (hx : x ∈ q) : (wt x.task).isSome = true := by
  have := (h.iq (ent M L j x)).1 ⟨j, q, x, hj, hx, rfl⟩
  rw [ent_task] at this
  rw [this]; rfl
theorem hand_we (h : WS s) {i : Nat} {m : Mx} (hm : s.ms[i]? = some m) : WE s.wt (handF s i m).1 (handF s i m).2.wt := by
  have hq := qs_m hm
  have hin : ∀ x ∈ m.queue, (s.wt x.task).isSome = true := fun x hx => h.qw.in_wt hq hx
  unfold handF
  cases hmq : m.queue with
  | nil => exact WE.refl _
  | cons x xs => exact WE.one (hin x (by rw [hmq]; exact .head _))
theorem pass_we : ∀ (q : List Wt) (rs : List Int) (wr : Int) (wt : Int → Option W3), (q.map Wt.task).Nodup → (∀ x ∈ q, (wt x.task).isSome = true) → WE wt (passG rs wr q).1 (unwait wt (passG rs wr q).1)
  | [], rs, wr, wt, _, _ => WE.refl _
  | x :: xs, rs, wr, wt, hn, hd => by
    unfold passG
    cases hm : mayF ⟨rs, wr, x :: xs⟩ x.write with
    | false => rw [if_neg (by simp)]; exact WE.refl _
    | true =>
      rw [if_pos rfl]
      rw [List.map_cons, List.nodup_cons] at hn
      have ih := pass_we xs (giveF ⟨rs, wr, xs⟩ x).readers (giveF ⟨rs, wr, xs⟩ x).writer (updF wt x.task none) hn.2 fun y hy => by
        have hne : y.task ≠ x.task := fun e => hn.1 (List.mem_map.2 ⟨y, hy, e⟩)
        unfold updF; rw [if_neg hne]
        exact hd y (List.mem_cons_of_mem _ hy)
      exact (WE.one (hd x (.head _))).trans ih
theorem let_we (h : WS s) (i : Nat) : WE s.wt (letS s i).1 (letS s i).2.wt := by
  unfold letS
  cases hc : s.cs[i]? with
  | none => exact WE.refl _
  | some q =>
    cases q with
    | nil => exact WE.refl _
    | cons x xs =>
      simp only
      have hx := h.qw.in_wt (qs_c hc) (.head _ : x ∈ x :: xs)
      cases hm : s.ms[x.mutex.toNat]? with
      | none => exact WE.refl _
      | some mx =>
        simp only
        unfold letF
        split
        · exact WE.keep hx _
        · exact WE.one hx
theorem letN_we : ∀ (k : Nat) {s : S8} {r : R8} (_ : Sim s r) (i : Nat), WE s.wt (letN k s i).1 (letN k s i).2.wt
  | 0, _, _, _, _ => WE.refl _
  | k + 1, _, _, h, i => (let_we h.ws i).trans (letN_we k (let_sim h i).2 i)
/-- who waits behind an act -/
structure Eff (s : S8) (t k : Int) (d : Told × S8) : Prop where
  nd : d.1.woken.Nodup
  dm : ∀ x ∈ d.1.woken, (s.wt x).isSome = true
  eq : ∀ x, (d.2.wt x).isSome = true ↔ ((s.wt x).isSome = true ∧ x ∉ d.1.woken) ∨ (x = t ∧ actW k d.1 = true)
theorem Eff.of {t k : Int} {d : Told × S8} (h : WE s.wt d.1.woken d.2.wt) (hw : actW k d.1 = false) : Eff s t k d :=
  ⟨h.nd, h.dm, fun x => by rw [h.eq, hw]; simp⟩
theorem Eff.push {t k : Int} {d : Told × S8} {f : Int → Option W3} {v : W3} (h : WE s.wt d.1.woken f) (h0 : s.wt t = none) (he : d.2.wt = updF f t (some v)) (hw : actW k d.1 = true) : Eff s t k d := by
  refine ⟨h.nd, h.dm, fun x => ?_⟩
  rw [he, hw]
  unfold updF
  by_cases e : x = t
  · subst e; simp
  · rw [if_neg e, h.eq]; simp [e]
theorem lock_eff (t n : Int) : Eff s t 1 (⟨(lockF s t n).1, [], 0, (lockF s t n).2.1⟩, (lockF s t n).2.2) := by
  unfold lockF
  by_cases h0 : askL t [(n, s.ms.length)] s.wt = 0
  · rw [if_neg (by simp [h0])]
    obtain ⟨_, hw, _, hlt⟩ := askL_in (s := s) h0
    obtain ⟨m, hm⟩ := get_ex (l := s.ms) hlt
    rw [hm]
    simp only
    split
    · exact .of (WE.refl _) (by simp [actW])
    · split
      · exact .of (WE.refl _) (by simp [actW])
      · exact .push (WE.refl _) hw rfl (by simp [actW])
  · rw [if_pos h0]
    exact .of (WE.refl _) (by simp [actW, h0])
theorem take_eff (t n : Int) (k : Int) (hk : k = 3 ∨ k = 5) : Eff s t k (⟨(takeF s t n k).1, [], 0, (takeF s t n k).2.1⟩, (takeF s t n k).2.2) := by
  have hk' : k = 1 ∨ k = 3 ∨ k = 5 := .inr hk
  unfold takeF
  by_cases h0 : askL t [(n, s.ls.length)] s.wt = 0
  · rw [if_neg (by simp [h0])]
    obtain ⟨_, hw, _, hlt⟩ := askL_in (s := s) h0
    obtain ⟨m, hm⟩ := get_ex (l := s.ls) hlt
    rw [hm]
    simp only
    split
    · exact .of (WE.refl _) (by rw [actW, if_pos hk']; rfl)
    · split
      · exact .of (WE.refl _) (by rw [actW, if_pos hk']; rfl)
      · exact .push (WE.refl _) hw rfl (by rw [actW, if_pos hk']; rfl)
  · rw [if_pos h0]
    exact .of (WE.refl _) (by simp [actW, h0])
theorem unlock_eff (h : WS s) (t n : Int) : Eff s t 2 (⟨false, (unlockF s t n).1, 0, (unlockF s t n).2.1⟩, (unlockF s t n).2.2) := by
  refine .of ?_ (by simp [actW])
  unfold unlockF
  split
  · exact WE.refl _
  · split
    · exact WE.refl _
    · rename_i m hm
      split
      · exact WE.refl _
      · exact hand_we h hm
theorem run_eff (h : WS s) (t n : Int) : Eff s t 4 (⟨false, (runF s t n).1, 0, (runF s t n).2.1⟩, (runF s t n).2.2) := by
  refine .of ?_ (by simp [actW])
  unfold runF
  split
  · exact WE.refl _
  · split
    · exact WE.refl _
    · rename_i m hm
      split
      · exact WE.refl _
      · have hq := qs_l hm
        exact pass_we _ _ _ _ (h.qw.nd _ (List.mem_of_getElem? hq)) fun x hx => h.qw.in_wt hq hx
theorem wun_eff (h : WS s) (t n : Int) : Eff s t 6 (⟨false, (wunF s t n).1, 0, (wunF s t n).2.1⟩, (wunF s t n).2.2) := by
  refine .of ?_ (by simp [actW])
  unfold wunF
  split
  · exact WE.refl _
  · split
    · exact WE.refl _
    · rename_i m hm
      split
      · exact WE.refl _
      · have hq := qs_l hm
        exact pass_we _ _ _ _ (h.qw.nd _ (List.mem_of_getElem? hq)) fun x hx => h.qw.in_wt hq hx
theorem wait_eff (h : WS s) (t n m : Int) : Eff s t 7 (⟨false, (waitF s t n m).1, 0, (waitF s t n m).2.1⟩, (waitF s t n m).2.2) := by
  unfold waitF
  by_cases h0 : askL t [(n, s.cs.length), (m, s.ms.length)] s.wt = 0
  · rw [if_neg (by simp [h0])]
    obtain ⟨_, _, hb, hw⟩ := askL_ok h0
    obtain ⟨hn, hm⟩ := badN_two hb
    obtain ⟨mx, hmx⟩ := get_ex (l := s.ms) (i := m.toNat) (by omega)
    obtain ⟨xs, hxs⟩ := get_ex (l := s.cs) (i := n.toNat) (by omega)
    rw [hmx, hxs]
    simp only
    split
    · exact .of (WE.refl _) (by simp [actW])
    · exact .push (hand_we h hmx) hw rfl (by simp [actW])
  · rw [if_pos h0]
    exact .of (WE.refl _) (by simp [actW, h0])
theorem does_eff (h : Sim s r) (t k n m : Int) : Eff s t k (doesF s t k n m) := by
  unfold doesF
  by_cases h1 : k = 1
  · subst h1; rw [if_pos rfl]; exact lock_eff t n
  rw [if_neg h1]
  by_cases h2 : k = 2
  · subst h2; rw [if_pos rfl]; exact unlock_eff h.ws t n
  rw [if_neg h2]
  by_cases h3 : k = 3
  · subst h3; rw [if_pos rfl]; exact take_eff t n 3 (.inl rfl)
  rw [if_neg h3]
  by_cases h4 : k = 4
  · subst h4; rw [if_pos rfl]; exact run_eff h.ws t n
  rw [if_neg h4]
  by_cases h5 : k = 5
  · subst h5; rw [if_pos rfl]; exact take_eff t n 5 (.inr rfl)
  rw [if_neg h5]
  by_cases h6 : k = 6
  · subst h6; rw [if_pos rfl]; exact wun_eff h.ws t n
  rw [if_neg h6]
  by_cases h7 : k = 7
  · subst h7; rw [if_pos rfl]; exact wait_eff h.ws t n m
  rw [if_neg h7]
  have hno : ∀ d : Told, actW k d = false := fun d => by rw [actW, if_neg (by omega), if_neg h7]
  by_cases h8 : k = 8
  · rw [if_pos h8]
    refine .of ?_ (hno _)
    unfold sigF
    split
    · exact WE.refl _
    · exact let_we h.ws _
  rw [if_neg h8]
  by_cases h9 : k = 9
  · rw [if_pos h9]
    refine .of ?_ (hno _)
    unfold broF
    split
    · exact WE.refl _
    · exact letN_we _ h _
  rw [if_neg h9]
  by_cases h10 : k = 10
  · rw [if_pos h10]
    refine .of ?_ (hno _)
    unfold addF
    split
    · exact WE.refl _
    · split <;> exact WE.refl _
  rw [if_neg h10]
  exact .of (WE.refl _) (hno _)
end
end Full
end Go.Proofs.Ytibpbbjlecohiaa
