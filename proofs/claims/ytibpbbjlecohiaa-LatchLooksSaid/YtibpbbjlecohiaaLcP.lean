import Derived.Test.YtibpbbjlecohiaaLcM
import Derived.Test.YtibpbbjlecohiaaLaI
import Derived.Sort.Grow
import Derived.Test.YtibpbbjlecohiaaLbT
set_option maxRecDepth 20000
namespace Go.Proofs.Ytibpbbjlecohiaa
namespace Full
open Go Go.Vc Go.RowKit
/-! # the cells of a tail made zero -/
theorem zeroCells_len (z : Array Value) (n : Nat) : (Builtin.zeroCells z n).toList.length = n * z.size := by simp [Builtin.zeroCells]
theorem zeroCells_one {z : Array Value} (h1 : ∀ v ∈ z.toList, v.oneCell' = true) (n : Nat) : ∀ v ∈ (Builtin.zeroCells z n).toList, v.oneCell' = true := fun v hv => by
  simp only [Builtin.zeroCells, Array.toList_map, Array.toList_range, List.mem_map, List.mem_range] at hv
  obtain ⟨i, hi, rfl⟩ := hv
  have hz : 0 < z.size := by
    rcases Nat.eq_zero_or_pos z.size with h | h
    · rw [h, Nat.mul_zero] at hi; omega
    · exact h
  have : i % z.size < z.size := Nat.mod_lt _ hz
  apply h1
  rw [getElem!_pos z _ this]
  exact Array.mem_toList_iff.2 (Array.getElem_mem this)
theorem run_clear_n {P : Program} (w : World) (t e ty : TypeId) (z : Value) (ht : P.underlying t = some (.slice e)) (hv : ∀ w, (zeroValue e).run P w = .ok z w) (h1 : ∀ v ∈ z.cells.toList, v.oneCell' = true) (g o c n : Nat) (cur : Array Value) (hg : Blk w g e cur) (hn : n ≠ 0) (hfit : o + n * z.cells.size ≤ cur.size) :
    (Builtin.clear_ #[t] ty #[.slice (some ⟨g, o, none⟩) n c]).run P w = .ok (.tuple #[]) (w.setRow g (cur.toList.take o ++ (Builtin.zeroCells z.cells n).toList ++ cur.toList.drop (o + (Builtin.zeroCells z.cells n).toList.length)).toArray) := by
  have hst := run_storeCells_at P g o e (Builtin.zeroCells z.cells n).toList 0 cur w hg (by rw [zeroCells_len]; simpa using hfit) (zeroCells_one h1 n)
  simp only [Nat.add_zero] at hst
  obtain ⟨m, rfl⟩ : ∃ m, n = m + 1 := ⟨n - 1, by omega⟩
  simp [Builtin.clear_, hv, hst, run_underlying ht]
section
variable {α : Type} {E : En α} {w : World} {base : Nat} {e : TypeId} {q : Option Addr} {l c : Nat} {xs : List α}
theorem clearTail {P : Program} {t ty : TypeId} {z : Value} (h : SE E w base e q l c xs) {k : Nat} (hkl : k < l) (ht : P.underlying t = some (.slice e)) (hv : ∀ w, (zeroValue e).run P w = .ok z w) (h1 : ∀ v ∈ z.cells.toList, v.oneCell' = true) (hk : z.cells.size = E.k) :
    ∃ w', (Builtin.clear_ #[t] ty #[.slice (cutP q c k E.k) (l - k) (c - k)]).run P w = .ok (.tuple #[]) w' ∧ SE E w' base e q k c (xs.take k) ∧ Chg (fun k => some k = qB q) w w' := by
  have hle := h.le
  have hr0 := h.take (n := k) (by omega)
  rcases h.ex with ⟨_, h0, _⟩ | ⟨g, off, cur, rfl, hbg, hg, h2, h3, h4, hr⟩
  · omega
  have hp := E.pos
  have hmul : (k + (l - k)) * E.k ≤ c * E.k := Nat.mul_le_mul_right _ (by omega)
  rw [Nat.add_mul] at hmul
  have hc : cutP (some (⟨g, off, none⟩ : Addr)) c k E.k = some ⟨g, off + k * E.k, none⟩ := by
    rw [cutP, if_neg (by omega)]
    simp [add_mk]
  have hzl : (Builtin.zeroCells z.cells (l - k)).toList.length = (l - k) * E.k := by rw [zeroCells_len, hk]
  have hrun := run_clear_n (P := P) w t e ty z ht hv h1 g (off + k * E.k) (c - k) (l - k) cur hg (by omega) (by rw [hk]; omega)
  rw [hc]
  refine ⟨_, hrun, ⟨hr0.len, .inr ⟨g, off, _, rfl, hbg, setRow_heap w g cur _ e _ hg, by omega, h3, ?_, fun i u hu => ?_⟩⟩, ⟨rfl, rfl, rfl, by simp [World.setRow], fun k _ hk => setRow_other w g k _ (fun e => hk (by simp [qB, e]))⟩⟩
  · simp only [List.size_toArray, List.length_append, List.length_take, List.length_drop, Array.length_toList]
    omega
  · have hi := get_lt hu
    rw [E.flat_len, hr0.len] at hi
    have hu' : (E.flat xs)[i]? = some u := by
      rw [E.flat_take, List.getElem?_take, if_pos hi] at hu
      exact hu
    simp only [List.getElem?_toArray, List.append_assoc]
    rw [List.getElem?_append_left (by simp; omega), List.getElem?_take, if_pos (by omega), ← hr i u hu']
    simp
end

/-! # of those that are alike the first one alone -/
section
variable {α : Type} {eq : α → α → Bool}
def dqp (eq : α → α → Bool) : α → List α → List α
  | _, [] => []
  | p, y :: r => if eq y p then dqp eq y r else y :: dqp eq y r
def dq (eq : α → α → Bool) : List α → List α
  | [] => []
  | x :: r => x :: dqp eq x r
theorem dqp_snoc : ∀ (p : α) (r : List α) (u y : α), (p :: r)[r.length]? = some u → dqp eq p (r ++ [y]) = dqp eq p r ++ if eq y u then [] else [y]
  | p, [], u, y, h => by
    simp at h; subst h
    simp only [List.nil_append, dqp]
  | p, z :: r, u, y, h => by
    have := dqp_snoc z r u y (by simpa using h)
    simp only [List.cons_append, dqp]
    split
    · exact this
    · rw [this]; rfl
theorem dq_snoc {xs : List α} {u y : α} (h : xs[xs.length - 1]? = some u) : dq eq (xs ++ [y]) = dq eq xs ++ if eq y u then [] else [y] := by
  cases xs with
  | nil => simp at h
  | cons x r =>
    have := dqp_snoc (eq := eq) x r u y (by simpa using h)
    simp only [List.cons_append, dq, this]
theorem dq_step {xs : List α} {k : Nat} {u y : α} (hu : xs[k - 1]? = some u) (hy : xs[k]? = some y) (hk : 0 < k) : dq eq (xs.take (k + 1)) = dq eq (xs.take k) ++ if eq y u then [] else [y] := by
  have hl := get_lt hy
  rw [take_next hy]
  refine dq_snoc ?_
  rw [List.length_take, List.getElem?_take, Nat.min_eq_left (by omega), if_pos (by omega)]
  exact hu
end
theorem zeroI3 (w : World) : (zeroValue 3).run Try.prog w = .ok (.int .i64 0) w := by kernel_rfl
theorem oneI3 : ∀ v ∈ (Value.int .i64 0).cells.toList, v.oneCell' = true := by
  intro v hv
  simp [Value.cells] at hv
  subst hv; rfl
theorem cellI {w : World} {base : Nat} {e : TypeId} {p : Addr} {l c : Nat} {xs : List Int} (S : SE En.int w base e (some p) l c xs) {k : Nat} {x : Int} (hx : xs[k]? = some x) : w.cell? (p.add (k * 1)) = some (.int .i64 x) ∧ 0 ≤ (k : Int) ∧ (k : Int) < (l : Int) := by
  obtain ⟨a, ha, hr⟩ := S.re.get k x hx
  cases ha
  have := get_lt hx
  have := S.len
  have c0 := reads_at hr (i := 0) rfl
  rw [add_zero'] at c0
  exact ⟨c0, by omega, by omega⟩
theorem compact106 {w : World} {base : Nat} {q : Option Addr} {l c : Nat} {xs : List Int} (h : SE En.int w base 3 q l c xs) (hl : l ≤ 1000000000000000000) :
    Calls Try.prog 106 #[.slice q l c] w (Ret fun v w' => ∃ l', v = .slice q l' c ∧ SE En.int w' base 3 q l' c (dq (fun a b : Int => a == b) xs) ∧ Chg (fun k => some k = qB q) w w') := by
  have hlen := h.len
  have hle := h.le
  refine f106.calls _ _ _ ?_
  unfold f106.wp
  refine bc (fun g => ?_) fun g => ?_
  · have g : l < 2 := by have := of_decide_eq_true g; omega
    refine ⟨l, rfl, ?_, Chg.refl _ _⟩
    match xs, hlen, h with
    | [], _, h => exact h
    | [x], _, h => exact h
    | x :: y :: r, hlen, _ => simp at hlen; omega
  have g : 2 ≤ l := by have := of_decide_eq_false g; omega
  obtain ⟨p, hp⟩ : ∃ p, q = some p := by obtain ⟨a, _, ha, _⟩ := h.re.ex (i := 0) (by omega); exact ⟨a, ha⟩
  subst hp
  refine ⟨fun x w' => ∃ k : Nat, x = (k : Int) ∧ 1 ≤ k ∧ k ≤ l ∧ SE En.int w' base 3 (some p) l c xs ∧ dq (fun a b : Int => a == b) (xs.take k) = xs.take k ∧ Chg (fun k => some k = qB (some p)) w w', fun x _ => l - x.toNat, ⟨1, rfl, Nat.le_refl _, by omega, h, ?_, Chg.refl _ _⟩, ?_⟩
  · match xs, hlen with
    | [], _ => rfl
    | x :: r, _ => rfl
  rintro _ w1 ⟨k, rfl, hk1, hkl, S1, e1, k1⟩
  refine bc (fun g1 => ?_) fun g1 => ?_
  case refine_2 =>
    have : k = l := by have := of_decide_eq_false g1; omega
    subst this
    rw [List.take_of_length_le (by omega)] at e1
    exact ⟨k, rfl, by rw [e1]; exact S1, k1⟩
  have g1 : k < l := by have := of_decide_eq_true g1; omega
  obtain ⟨y, hy⟩ := get_ex (l := xs) (i := k) (by omega)
  obtain ⟨u, hu⟩ := get_ex (l := xs) (i := k - 1) (by omega)
  have S1d := S1.drew
  obtain ⟨ry, by'⟩ := cellI S1d hy
  obtain ⟨ru, bu⟩ := cellI S1d hu
  rw [show IntKind.wrap .i64 ((k : Int) - 1) = ((k - 1 : Nat) : Int) by rw [wrapS (by omega) (by omega)]; omega]
  have S2 := S1d
  have k12 := k1.drew
  have st := dq_step (eq := fun a b : Int => a == b) hu hy (by omega)
  refine onPtr_mk ⟨by'.1, by'.2, _, ry, onPtr_mk ⟨bu.1, bu.2, _, ru, bc (fun ha => ?_) fun ha => ?_⟩⟩
  case refine_2 =>
    rw [show IntKind.wrap .i64 ((k : Int) + 1) = ((k + 1 : Nat) : Int) by rw [wrapS (by omega) (by omega)]; omega]
    refine ⟨⟨k + 1, rfl, by omega, g1, S2, ?_, k12⟩, by simp only [Int.toNat_natCast]; omega⟩
    rw [st, ha, e1, take_next hy]; rfl
  -- one that is alike is found
  refine ⟨by'.1, by omega, ?_⟩
  have tk : Int.toNat (k : Int) = k := by omega
  rw [tk]
  have hcp : cutP (some p) c k 1 = some (p.add (k * 1)) := by
    rw [cutP, if_neg (by omega)]; rfl
  rw [hcp]
  refine ⟨fun x y w' => ∃ (i j : Nat) (ys : List Int), x = (i : Int) ∧ y = (j : Int) ∧ 1 ≤ j ∧ k + j ≤ l ∧ k ≤ i ∧ i < k + j ∧ SE En.int w' base 3 (some p) l c ys ∧ ys.take i = dq (fun a b : Int => a == b) (xs.take (k + j)) ∧ (∀ t, k + j - 1 ≤ t → ys[t]? = xs[t]?) ∧ Chg (fun k => some k = qB (some p)) w w', fun _ y _ => l - y.toNat, ⟨k, 1, xs, rfl, rfl, Nat.le_refl _, by omega, Nat.le_refl _, by omega, S2, by rw [st, ha, e1]; simp, fun _ _ => rfl, k12⟩, ?_⟩
  clear S1 S1d S2 ry ru by' bu
  rintro _ _ w3 ⟨i, j, ys, rfl, rfl, hj1, hj, hki, hij, S3, e3, hs3, k3⟩
  have l3 := S3.len
  refine bc (fun g2 => ?_) fun g2 => ?_
  · have g2 : k + j < l := by have := of_decide_eq_true g2; omega
    obtain ⟨y', hy'⟩ := get_ex (l := xs) (i := k + j) (by omega)
    obtain ⟨u', hu'⟩ := get_ex (l := xs) (i := k + j - 1) (by omega)
    have S3d := S3.drew
    have yy : ys[k + j]? = some y' := by rw [hs3 _ (by omega)]; exact hy'
    have yu : ys[k + j - 1]? = some u' := by rw [hs3 _ (by omega)]; exact hu'
    have ry := (cellI S3d yy).1
    have ru := (cellI S3d yu).1
    rw [show IntKind.wrap .i64 ((j : Int) - 1) = ((j - 1 : Nat) : Int) by rw [wrapS (by omega) (by omega)]; omega]
    have a1 : (p.add (k * 1)).add (j * 1) = p.add ((k + j) * 1) := by rw [Addr.add_add]; congr 1; omega
    have a2 : (p.add (k * 1)).add ((j - 1) * 1) = p.add ((k + j - 1) * 1) := by rw [Addr.add_add]; congr 1; omega
    have S4 := S3d
    have k34 := k3.drew
    have st' := dq_step (eq := fun a b : Int => a == b) hu' hy' (by omega)
    rw [show k + j + 1 = k + (j + 1) by omega] at st'
    rw [show IntKind.wrap .i64 ((j : Int) + 1) = ((j + 1 : Nat) : Int) by rw [wrapS (by omega) (by omega)]; omega]
    refine onPtr_mk ⟨by omega, by omega, _, (show w3.drew.cell? ((p.add (k * 1)).add (j * 1)) = some (.int .i64 y') by rw [a1]; exact ry), onPtr_mk ⟨by omega, by omega, _, (show w3.drew.cell? ((p.add (k * 1)).add ((j - 1) * 1)) = some (.int .i64 u') by rw [a2]; exact ru), bc (fun hb => ?_) fun hb => ?_⟩⟩
    · have hb : (y' == u') = false := by simpa [bne] using hb
      have ry4 := (cellI S4 yy).1
      obtain ⟨p', hp', hcan⟩ := S4.can (i := i) (by omega)
      cases hp'
      have hc0 := hcan 0 1 (by decide)
      rw [add_zero'] at hc0
      refine onPtr_mk ⟨by omega, by omega, _, (show w3.drew.cell? ((p.add (k * 1)).add (j * 1)) = some (.int .i64 y') by rw [a1]; exact ry4), onPtr_mk ⟨by omega, by omega, hc0, fun w5 e5 => ?_⟩⟩
      obtain ⟨S5, k5⟩ := S4.set rfl (i := i) (x' := y') (by omega) e5
      rw [show IntKind.wrap .i64 ((i : Int) + 1) = ((i + 1 : Nat) : Int) by rw [wrapS (by omega) (by omega)]; omega]
      refine ⟨⟨i + 1, j + 1, ys.set i y', rfl, rfl, by omega, by omega, by omega, by omega, S5, ?_, fun t ht => ?_, k34.trans k5⟩, by simp only [Int.toNat_natCast]; omega⟩
      · rw [st', hb, ← e3, take_next (List.getElem?_set_self (by omega)), List.take_set_of_le (Nat.le_refl _)]; rfl
      · rw [List.getElem?_set_ne (by omega)]; exact hs3 t (by omega)
    · have hb : (y' == u') = true := by simpa [bne] using hb
      refine ⟨⟨i, j + 1, ys, rfl, rfl, by omega, by omega, hki, by omega, S4, ?_, fun t ht => hs3 t (by omega), k34⟩, by simp only [Int.toNat_natCast]; omega⟩
      rw [st', hb, ← e3]; simp
  · have : k + j = l := by have := of_decide_eq_false g2; omega
    have ti : Int.toNat (i : Int) = i := by omega
    rw [ti]
    obtain ⟨w6, hr, S6, k6⟩ := clearTail (P := Try.prog) (t := 35) (ty := 0) S3 (k := i) (by omega) Try.underlying35 zeroI3 oneI3 rfl
    refine ⟨by omega, by omega, w6, hr, by omega, by omega, i, rfl, ?_, k3.trans k6⟩
    rw [this, List.take_of_length_le (l := xs) (by omega)] at e3
    rw [← e3]; exact S6
/-! # slices.Sort of ints -/
section
open Go.Sort
theorem sort104 {w : World} {base : Nat} {q : Option Addr} {l c : Nat} {zs : List Int} (S : SE En.int w base 3 q l c zs) (hl : l ≤ 1000000) :
    Calls Try.prog 104 #[.slice q l c] w (Ret fun v w' => v = .tuple #[] ∧ SE En.int w' base 3 q l c (zs.mergeSort fun x y => decide (x ≤ y)) ∧ Chg (fun b => some b = qB q) w w') := by
  have hlen := S.len
  rcases S.ex with ⟨rfl, hl0, hc⟩ | ⟨g, off, cur, rfl, hbg, hB, hlc, hcm, hsz, hr⟩
  · subst hl0
    have hz : zs = [] := List.eq_nil_of_length_eq_zero hlen
    subst hz
    refine Calls.mono (AnyM.slices_Sort_int_none Try.sortA none c w) ?_
    rintro _ _ ⟨rfl, rfl⟩
    exact ⟨_, rfl, rfl, by rw [List.mergeSort_nil]; exact S, Chg.refl _ _⟩
  · have hH : Holds (Value.int .i64) w g off zs.toArray := fun j hj => by
      have hj : j < zs.length := by simpa using hj
      have hc := (cellI S (List.getElem?_eq_getElem hj)).1
      rw [Nat.mul_one, add_mk] at hc
      refine ⟨?_, hB.frozen _⟩
      rw [hc, getElem!_pos zs.toArray j (by simpa using hj)]
      simp
    have hcl := AnyM.slices_Sort_int Try.sortA g off c zs w hH hB.lt (by omega)
    rw [hlen] at hcl
    refine Calls.mono hcl ?_
    rintro _ w' ⟨rfl, n, os, rfl⟩
    obtain ⟨ms, hms⟩ : ∃ ms, ms = zs.mergeSort fun x y => decide (x ≤ y) := ⟨_, rfl⟩
    rw [← hms]
    have lms : ms.length = l := by rw [hms, List.length_mergeSort]; exact hlen
    have hgl := hB.lt
    have hgs : g < (putRow (Value.int .i64) (Sort.ahead w n) g off ms.toArray).heap.size := by simpa using hgl
    have B' : Blk (grow (putRow (Value.int .i64) (Sort.ahead w n) g off ms.toArray) os) g 3 (putCells (Value.int .i64) off ms.toArray cur) := by
      show _ = _
      rw [heap_grow_old _ _ hgs]
      show (w.heap.modify g (onCells _))[g]? = _
      rw [Array.getElem?_modify, if_pos rfl, hB]
      rfl
    refine ⟨_, rfl, rfl, ⟨lms, .inr ⟨g, off, _, rfl, hbg, B', hlc, hcm, by simpa [putCells] using hsz, fun i u hu => ?_⟩⟩, ⟨rfl, rfl, rfl, by simp, fun k hk hne => ?_⟩⟩
    · obtain ⟨i', j, y, rfl, hj, hy, hyv⟩ := En.int.flat_ex hu
      have hj : j < 1 := hj
      have hj0 : j = 0 := by omega
      subst hj0
      cases hyv
      have hi := get_lt hy
      rw [show i' * En.int.k + 0 = i' from Nat.mul_one i']
      have hcs : off + i' < cur.size := by
        have : off + c * 1 ≤ cur.size := hsz
        omega
      unfold putCells
      rw [Array.getElem?_mapIdx, Array.getElem?_eq_getElem hcs]
      rw [List.getElem?_eq_getElem hi] at hy
      simp only [Option.map_some, List.size_toArray]
      rw [if_pos ⟨by omega, by omega⟩, getElem!_pos ms.toArray (off + i' - off) (by simp; omega)]
      have e : off + i' - off = i' := by omega
      simp only [e, List.getElem_toArray]
      cases hy; rfl
    · have hk' : k < (putRow (Value.int .i64) (Sort.ahead w n) g off ms.toArray).heap.size := by simpa using hk
      rw [heap_grow_old _ _ hk']
      show (w.heap.modify g (onCells _))[k]? = _
      rw [Array.getElem?_modify, if_neg (fun e => hne (by simp [qB, e]))]
end
end Full
end Go.Proofs.Ytibpbbjlecohiaa
set_option maxRecDepth 20000
namespace Go.Proofs.Ytibpbbjlecohiaa
namespace Full
open Go Go.Vc Go.RowKit
/-! # who waits, of the program -/
theorem SE.ofRowI {w : World} {base e n : Nat} {v : Value} {ss : List Int} (h : w.ownsRow base e 1 v n (ss.map encZ)) : ∃ q c, v = .slice q n c ∧ SE En.int w base e q n c ss := by
  obtain ⟨hl, h⟩ := h
  rw [List.length_map, Nat.mul_one] at hl
  rcases h with ⟨rfl, rfl⟩ | ⟨g, cap, cur, rfl, hb, hg, h1, h2, h3, h4⟩
  · exact ⟨none, 0, rfl, by simpa using hl, .inl ⟨rfl, rfl, rfl⟩⟩
  · refine ⟨some ⟨g, 0, none⟩, cap, rfl, by simpa using hl, .inr ⟨g, 0, cur, rfl, hb, hg, h1, h2, ?_, fun i u hu => ?_⟩⟩
    · show 0 + cap * 1 ≤ cur.size
      omega
    · obtain ⟨i', j, y, rfl, hj, hy, hyv⟩ := En.int.flat_ex hu
      have hj : j < 1 := hj
      have hj0 : j = 0 := by omega
      subst hj0
      cases hyv
      have hi := get_lt hy
      rw [show 0 + (i' * En.int.k + 0) = i' by show 0 + (i' * 1 + 0) = i'; omega, ← Array.getElem?_toList]
      have hm : (ss.map encZ)[i']? = some (encZ y) := by rw [List.getElem?_map, hy]; rfl
      rw [← h4, List.getElem?_take] at hm
      split at hm
      · exact hm
      · cases hm
theorem Mp.look1 {P : Program} {k t e : TypeId} {w : World} {b n : Nat} {f : Int → Option W3} {v : W3} (h : Mp P k w b n f) (hk : P.underlying k = some (.int .i64)) (ht : P.underlying t = some (.map k e)) (hz : ∀ w, (zeroValue e).run P w = .ok (a3 (0, 0, 0)) w) {x : Int} (hx : ok64 x) (hv : f x = some v) :
    (Instr.lookup t (.map (some b)) (.int .i64 x) false).run P w = .ok (a3 v) w := by
  obtain ⟨D, h1, h2, h3⟩ := h.ex
  obtain ⟨u, ps, hrun, hu⟩ := h1.lookup (Maps.int_keyed hk) ht (hz w) (R3_mk (0, 0, 0)) (key64 hk hx)
  rw [h3 x hx, hv] at hu
  rw [hrun, R3_inv (x := v) hu]
/-- the keys of those that wait, rising -/
def keysF (f : Int → Option W3) : List Int := ((List.range 16).filter fun t : Nat => (f (t : Int)).isSome).map fun t : Nat => (t : Int)
theorem keysF_mem {f : Int → Option W3} (hf : ∀ t v, f t = some v → 0 ≤ t ∧ t < 16) (x : Int) : x ∈ keysF f ↔ (f x).isSome = true := by
  simp only [keysF, List.mem_map, List.mem_filter, List.mem_range]
  constructor
  · rintro ⟨t, ⟨_, h⟩, rfl⟩; exact h
  · intro h
    obtain ⟨v, hv⟩ := Option.isSome_iff_exists.1 h
    have := hf x v hv
    exact ⟨x.toNat, ⟨by omega, by rw [show ((x.toNat : Nat) : Int) = x by omega]; exact h⟩, by omega⟩
theorem keysF_lt (f : Int → Option W3) : (keysF f).Pairwise fun a b => a < b := by
  refine List.pairwise_map.2 ?_
  have h := (List.pairwise_lt_range (n := 16)).sublist (List.filter_sublist (p := fun t : Nat => (f (t : Int)).isSome))
  exact h.imp fun h => by omega
theorem keysF_len (f : Int → Option W3) : (keysF f).length ≤ 16 := by
  rw [keysF, List.length_map]
  exact Nat.le_trans (List.length_filter_le _ _) (by simp)
theorem sort_keys {f : Int → Option W3} {ss : List Int} (h : ss.Perm (keysF f)) : ss.mergeSort (fun x y => decide (x ≤ y)) = keysF f := by
  have tr : ∀ a b c : Int, leI a b = true → leI b c = true → leI a c = true := fun a b c h1 h2 => by simp only [leI, decide_eq_true_eq] at *; omega
  have to : ∀ a b : Int, (leI a b || leI b a) = true := fun a b => by simp only [leI, Bool.or_eq_true, decide_eq_true_eq]; omega
  refine List.Perm.eq_of_pairwise (le := fun a b => leI a b = true) (fun a b _ _ h1 h2 => ?_) (List.pairwise_mergeSort tr to ss) ((keysF_lt f).imp fun h => by simp only [leI, decide_eq_true_eq]; omega) ((List.mergeSort_perm ss leI).trans h)
  simp only [leI, decide_eq_true_eq] at h1 h2
  omega
theorem Mp.keys {P : Program} {k : TypeId} {w : World} {b n : Nat} {f : Int → Option W3} (h : Mp P k w b n f) (hk : P.underlying k = some (.int .i64)) (hf : ∀ t v, f t = some v → 0 ≤ t ∧ t < 16) :
    ∃ D : DataW Unit, w.ownsMap P k R3 b n D ∧ (keysF f).Perm (intKeys D) ∧ Maps.size D ≤ 16 := by
  obtain ⟨D, h1, h2, h3⟩ := h.ex
  have hp : (keysF f).Perm (intKeys D) := by
    refine CollectedI.perm (left := fun _ => false) ⟨(keysF_lt f).imp (fun h => by omega), fun x => ?_⟩ h1 (Maps.int_keyed hk) hk (fun _ => rfl)
    rw [keysF_mem hf]
    constructor
    · intro hs
      obtain ⟨v, hv⟩ := Option.isSome_iff_exists.1 hs
      have := hf x v hv
      exact ⟨by rw [show Maps.has D (.int .i64 x) = (f x).isSome from h2 x (ok64_task this.1 this.2)]; exact hs, rfl⟩
    · rintro ⟨hs, _⟩
      obtain ⟨es, hD, hko⟩ := h1.keysOf
      have hok : ok64 x := by
        subst hD
        rw [Maps.has_eq, List.any_eq_true] at hs
        obtain ⟨p, hp, hsk⟩ := hs
        obtain ⟨u, hu⟩ := hko p hp
        obtain ⟨y, _, hy, hl⟩ := Maps.keyOf_i64 hk hu
        rw [hy] at hsk
        have : y = x := by simpa [Lit.sameKey] using hsk
        subst this
        exact hl
      rw [← h2 x hok]; exact hs
  refine ⟨D, h1, hp, ?_⟩
  obtain ⟨es, hD, _⟩ := h1.keysOf
  subst hD
  have h16 := keysF_len f
  rw [hp.length_eq] at h16
  simpa [intKeys, Maps.size] using h16
def waitsP (s : S8) : List W3 := (List.range 16).filterMap fun t : Nat => s.wt (t : Int)
theorem filter_fm {α β : Type} (f : α → Option β) : ∀ l : List α, (l.filter fun t => (f t).isSome).filterMap f = l.filterMap f
  | [] => rfl
  | a :: l => by
    cases h : f a with
    | none => rw [List.filter_cons_of_neg (by simp [h]), List.filterMap_cons_none h, filter_fm f l]
    | some b => rw [List.filter_cons_of_pos (by simp [h]), List.filterMap_cons_some h, List.filterMap_cons_some h, filter_fm f l]
theorem keysF_fm (f : Int → Option W3) : (keysF f).filterMap f = (List.range 16).filterMap fun t : Nat => f (t : Int) := by
  rw [keysF, List.filterMap_map]
  exact filter_fm (fun t : Nat => f (t : Int)) _
section
variable {w w' : World} {base N Q o : Nat} {g : G8} {s : S8}
theorem waits34 (h : InvG w base N Q o g s) (hf : ∀ t v, s.wt t = some v → 0 ≤ t ∧ t < 16) :
    Calls Try.prog 34 #[.pointer (some (ad o))] w (Ret fun v w' => ∃ q l c, v = .slice q l c ∧ SE En.w3 w' w.heap.size 47 q l c (waitsP s) ∧ l ≤ 16 ∧ Chg none_ w w') := by
  obtain ⟨D, hown, hperm, hsz⟩ := Mp.keys h.wts key3 hf
  refine f34.calls _ ?_
  unfold f34.wp
  refine ⟨ptrOk_none _ _, bcF rfl (onPtr_mk ⟨some g.m, (h.obj.cell0 4).trans rfl, Calls.mono (keys76 (some g.m) w) ?_⟩)⟩
  rintro _ w1 ⟨rfl, rfl⟩
  refine ⟨_, rfl, Calls.mono (sorted75A hown (by simp only [maxLen]; omega) (by omega)) ?_⟩
  rintro _ w2 ⟨v, ss, rfl, hp, hrow, hnil, hb⟩
  rw [sort_keys (hp.trans hperm.symm)] at hrow
  have hslen : ss.length ≤ 16 := by rw [(hp.trans hperm.symm).length_eq]; exact keysF_len _
  obtain ⟨q, c, rfl, S2⟩ := SE.ofRowI hrow
  have k2 : Chg none_ w w2 := ((Chg.refl none_ w).alloc _).trans (Chg.of_below (by simpa using hb) _)
  have hkl := S2.len
  refine ⟨q, ss.length, c, rfl, fun q2 l2 c2 x w' => ∃ i : Nat, x = (i : Int) ∧ i ≤ ss.length ∧ SE En.w3 w' w.heap.size 47 q2 l2 c2 (((keysF s.wt).take i).filterMap s.wt) ∧ l2 ≤ i ∧ Chg none_ w w' ∧ SE En.int w' (w.heap.size + 1) 3 q ss.length c (keysF s.wt), fun _ _ _ x _ => ss.length - x.toNat,
    ⟨0, rfl, Nat.zero_le _, SE.nil _ _ _ _, by omega, k2, S2⟩, ?_⟩
  rintro q2 l2 c2 _ w3 ⟨i, rfl, hi, A3, hl3, k3, S3⟩
  have h3 := h.chgN k3
  refine bc (fun hlt => ?_) fun hge => ?_
  · have hlt : i < ss.length := by have := of_decide_eq_true hlt; omega
    obtain ⟨a, x, ha, hx, hr⟩ := S3.re.ex hlt
    have c0 := reads_at hr (i := 0) rfl
    rw [add_zero'] at c0
    have hxs := (keysF_mem hf x).1 (List.mem_of_getElem? hx)
    obtain ⟨v, hv⟩ := Option.isSome_iff_exists.1 hxs
    have hxb := hf x v hv
    have hrun := Mp.look1 (t := 87) (e := 47) h3.wts key3 Try.underlying87 zeroW3 (ok64_task hxb.1 hxb.2) hv
    rw [wrapS (x := (i : Int) + 1) (by omega) (by omega)]
    refine onPtr_at ha ⟨by omega, by omega, x, c0, onPtr_mk ⟨some g.m, (h3.obj.cell0 4).trans rfl, v.1, v.2.1, v.2.2, w3, hrun, ?_⟩⟩
    refine pushG (t := 44) elemW3 A3 k3 v (by omega) (by decide) rfl fun q' c' w7 A7 k7 hB => ⟨⟨i + 1, by omega, hlt, ?_, by omega, k7, SE.ofB S3 fun b cs B => hB _ _ _ B (by decide)⟩, meas hlt⟩
    rw [take_next hx, List.filterMap_append]
    simpa [hv] using A7
  · have hil : i = ss.length := by have := of_decide_eq_false hge; omega
    subst hil
    rw [List.take_of_length_le (by omega), keysF_fm] at A3
    exact ⟨q2, l2, c2, rfl, A3, by omega, k3⟩
/-! # for whom one waits -/
def aheadQ (s : S8) (v : W3) : List Int × List Wt :=
  if v.2.1 = 1 then (match s.ms[v.2.2.toNat]? with | some m => ([m.owner], m.queue) | none => ([], []))
  else if v.2.1 = 3 ∨ v.2.1 = 5 then (match s.ls[v.2.2.toNat]? with | some l => (l.readers ++ (if 0 ≤ l.writer then [l.writer] else []), l.queue) | none => ([], []))
  else ([], [])
def aheadP (s : S8) (v : W3) : List Int := dq (fun a b : Int => a == b) (((aheadQ s v).1 ++ ((aheadQ s v).2.takeWhile fun x => x.task != v.1).map Wt.task).mergeSort fun x y => decide (x ≤ y))
structure Small8 (s : S8) : Prop where
  q : ∀ q ∈ s.qs, q.length ≤ 16
  r : ∀ l ∈ s.ls, l.readers.length ≤ 16
def Valid (s : S8) (v : W3) : Prop := (v.2.1 = 1 ∧ ∃ i : Nat, v.2.2 = (i : Int) ∧ i < s.ms.length) ∨ ((v.2.1 = 3 ∨ v.2.1 = 5) ∧ ∃ i : Nat, v.2.2 = (i : Int) ∧ i < s.ls.length) ∨ v.2.1 = 7
theorem reads3 {w : World} {p : Addr} {a b c : Value} (h0 : w.cell? p = some a) (h1 : w.cell? (p.add 1) = some b) (h2 : w.cell? (p.add 2) = some c) : reads w p [a, b, c] := fun j v hj => by
  rcases j with _ | _ | _ | j
  · cases hj; rw [add_zero']; exact h0
  · cases hj; exact h1
  · cases hj; exact h2
  · simp at hj
theorem dq_le {α : Type} {eq : α → α → Bool} (xs : List α) : (dq eq xs).length ≤ xs.length := by
  have hp : ∀ (r : List α) (p : α), (dqp eq p r).length ≤ r.length := fun r => by
    induction r with
    | nil => intro p; exact Nat.le_refl _
    | cons y r ih =>
      intro p
      have := ih y
      unfold dqp
      split
      · simp only [List.length_cons]; omega
      · simp only [List.length_cons]; omega
  cases xs with
  | nil => exact Nat.le_refl _
  | cons x r => have := hp r x; simp only [dq, List.length_cons]; omega
theorem ahead77 (h : InvG w base N Q o g s) (hS : Small8 s) {v : W3} (hv : Valid s v) :
    Calls Try.prog 77 #[.pointer (some (ad o)), .agg #[.int .i64 v.1, .int .i64 v.2.1, .int .i64 v.2.2]] w (Ret fun u w' => ∃ q l c, u = .slice q l c ∧ SE En.int w' w.heap.size 3 q l c (aheadP s v) ∧ l ≤ 40 ∧ Chg none_ w w') := by
  refine f77.calls _ _ _ _ ?_
  unfold f77.wp
  refine newBox fun w1 B1 k1 z1 => ⟨fun q1 l1 c1 q2 l2 c2 w2 => SE En.int w2 w.heap.size 3 q1 l1 c1 (aheadQ s v).1 ∧ SE En.wt w2 base 106 q2 l2 c2 (aheadQ s v).2 ∧ l1 ≤ 17 ∧ l2 ≤ 16 ∧ Chg none_ w w2 ∧ Blk w2 w.heap.size 47 #[.int .i64 v.1, .int .i64 v.2.1, .int .i64 v.2.2], ?_, _, (B1.cell0 1).trans rfl, ?_⟩
  · rintro q1 l1 c1 q2 l2 c2 w2 ⟨A2, R2, hl1, hl2, k2, B2⟩
    have eR := R2.len
    have fin : ∀ {q l c w' n}, SE En.int w' w.heap.size 3 q l c ((aheadQ s v).1 ++ ((aheadQ s v).2.takeWhile fun x => x.task != v.1).map Wt.task) → l ≤ 17 + n → n ≤ 16 → Chg none_ w w' → Calls Try.prog 104 #[.slice q l c] w' fun (e1 : Ending) (w14 : World) => e1 = .returned (.tuple #[]) ∧ Calls Try.prog 106 #[.slice q l c] w14 fun (e2 : Ending) (w15 : World) => ∃ (q15 : Option Addr) (l15 c15 : Nat), e2 = .returned (.slice q15 l15 c15) ∧ (∃ q l c, Value.slice q15 l15 c15 = .slice q l c ∧ SE En.int w15 w.heap.size 3 q l c (aheadP s v) ∧ l ≤ 40 ∧ Chg none_ w w15) := fun {q l c w' n} A hl hn k => by
      refine Calls.use (sort104 A (by omega)) ?_
      rintro _ w14 ⟨rfl, A14, k14⟩
      refine ⟨rfl, Calls.use (compact106 A14 (by omega)) ?_⟩
      rintro _ w15 ⟨l', rfl, A15, k15⟩
      have l15 := A15.len
      have l14 := A14.len
      have hd := dq_le (eq := fun a b : Int => a == b) (((aheadQ s v).1 ++ ((aheadQ s v).2.takeWhile fun x => x.task != v.1).map Wt.task).mergeSort fun x y => decide (x ≤ y))
      exact ⟨_, _, _, rfl, _, _, _, rfl, A15, by omega, (k.up k14 fun b hb => (A.lt hb.symm).2).up k15 fun b hb => (A14.lt hb.symm).2⟩
    refine ⟨fun q l c x w' => ∃ i : Nat, x = (i : Int) ∧ i ≤ l2 ∧ SE En.int w' w.heap.size 3 q l c ((aheadQ s v).1 ++ ((aheadQ s v).2.take i).map Wt.task) ∧ l ≤ 17 + i ∧ Chg none_ w w' ∧ Blk w' w.heap.size 47 #[.int .i64 v.1, .int .i64 v.2.1, .int .i64 v.2.2] ∧ SE En.wt w' base 106 q2 l2 c2 (aheadQ s v).2 ∧ ∀ (j : Nat) (z : Wt), j < i → (aheadQ s v).2[j]? = some z → (z.task != v.1) = true, fun _ _ _ x _ => l2 - x.toNat,
      ⟨0, rfl, Nat.zero_le _, by simpa using A2, by omega, k2, B2, R2, fun j z hj => by omega⟩, ?_⟩
    rintro q14 l14 c14 _ w11 ⟨i, rfl, hi, A11, hl11, k11, B11, R11, hin⟩
    refine bc (fun hlt => ?_) fun hge => ?_
    · have hlt : i < l2 := by have := of_decide_eq_true hlt; omega
      obtain ⟨a, y, ha, hy, hr⟩ := R11.re.ex hlt
      rw [wrapS (x := (i : Int) + 1) (by omega) (by omega)]
      refine onPtr_at ha ⟨by omega, by omega, _, _, _, hr, boxed rfl rfl fun w13 B13 k13 _ => ⟨_, (B13.cell 0).trans rfl, _, ((k13.blk B11 (fun x => x)).cell 0).trans rfl, bc (fun he => ?_) fun he => ⟨_, (B13.cell 0).trans rfl, ?_⟩⟩⟩
      · have htw := tw_stop (p := fun x : Wt => x.task != v.1) hin hy (by simp only [bne, he, Bool.not_true])
        have A13 := A11.chgN k13
        rw [← htw] at A13
        exact fin A13 hl11 (by omega) (k11.trans k13)
      · refine pushG (t := 35) elemInt (A11.chgN k13) (k11.trans k13) y.task (by omega) (by decide) rfl fun q' c' w7 A7 k7 hB => ⟨⟨i + 1, by omega, hlt, ?_, by omega, k7, hB _ _ _ (k13.blk B11 (fun x => x)) (by decide), SE.ofB (R11.chgN k13) fun b cs B => hB _ _ _ B (by decide), fun j z hj hz => ?_⟩, meas hlt⟩
        · rw [take_next hy, List.map_append, ← List.append_assoc]
          exact A7
        · rcases Nat.lt_or_ge j i with h' | h'
          · exact hin j z h' hz
          · have : j = i := by omega
            subst this
            rw [hy] at hz; cases hz
            simp only [bne, he, Bool.not_false]
    · have hil : i = l2 := by have := of_decide_eq_false hge; omega
      subst hil
      have htw := tw_all (p := fun x : Wt => x.task != v.1) (l := (aheadQ s v).2) fun j z hz => hin j z (by have := get_lt hz; omega) hz
      rw [List.take_of_length_le (by omega), ← htw] at A11
      exact fin (by rw [htw] at A11; rw [htw]; exact A11) hl11 (by omega) k11
  · refine bc (fun h1 => ?_) fun h1 => ?_
    · have k1 := k1.drew
      have B1 := B1.drew
      generalize w1.drew = W at *
      have hW := h.chgN k1
      have hz := k1.size
      have hK : ∀ {b j : Nat}, b < W.heap.size → (fun x : Addr => x.block < W.heap.size) ((⟨b, 0, none⟩ : Addr).add j) := fun {b j} hb => by
        show (Addr.add _ _).block < _
        rw [add_block]; exact hb
      have h1 : v.2.1 = 1 := eq_of_beq h1
      obtain ⟨i, ei, hi⟩ : ∃ i : Nat, v.2.2 = (i : Int) ∧ i < s.ms.length := by
        rcases hv with ⟨_, h⟩ | ⟨h, _⟩ | h
        · exact h
        · omega
        · omega
      have ti : v.2.2.toNat = i := by omega
      obtain ⟨m, hm⟩ := get_ex (l := s.ms) hi
      obtain ⟨a, hd, ha, hhx, Qe, c0, c1⟩ := hW.mrow_at hm
      have eQ : aheadQ s v = ([m.owner], m.queue) := by unfold aheadQ; rw [if_pos h1, ti, hm]
      have lq := hS.q m.queue (List.mem_of_getElem? (qs_m hm))
      have lqe := Qe.len
      have kc : ∀ x : Addr, x.block = a.block → x.block < W.heap.size := fun x hx => by
        have := cell_some c0
        rw [add_block] at this
        rw [hx]; exact this
      refine ⟨fun x => x.block < W.heap.size, onPtr_mk ⟨_, _, _, hW.obj.lt, (hW.obj.cell 0).trans rfl, v.2.2, hK B1.lt, (B1.cell0 2).trans rfl, ?_⟩⟩
      rw [ti]
      refine onPtr_at ha ⟨by omega, by omega, m.owner, kc _ (by rw [add_block]), c0, onPtr_mk ⟨_, _, _, hW.obj.lt, (hW.obj.cell 0).trans rfl, v.2.2, hK B1.lt, (B1.cell0 2).trans rfl, ?_⟩⟩
      rw [ti]
      refine onPtr_at ha ⟨by omega, by omega, hd.1, hd.2.1, hd.2.2, kc _ (by rw [add_block, add_block]), c1, newBox fun w3 B3 k3 _ => ?_⟩
      obtain ⟨q', c', w4, hrun, A4, k4, _, _⟩ := (SE.nil En.int w3 w.heap.size 3).append1 (t := 35) (ty := 35) (x := m.owner) elemInt B3 (by simp only [maxLen]; omega) (by decide) (by have := k3.size; omega)
      have k34 : Chg none_ W w4 := k3.up k4 fun b hb => by simp [qB] at hb
      refine ⟨k3.keeps, q', 0 + 1, c', w4, hrun, k34.keeps, ?_⟩
      rw [eQ]
      exact ⟨A4, Qe.chgN k34, by omega, by show hd.2.1 ≤ 16; rw [← lqe]; exact lq, k1.trans k34, k34.blk B1 (fun x => x)⟩
    · have h1 : ¬ v.2.1 = 1 := ne_of_beq_false h1
      refine ⟨fun b w5 => b = decide (v.2.1 = 3 ∨ v.2.1 = 5) ∧ w5 = w1, ?_, ?_⟩
      rotate_left
      · refine bc (fun h3 => ⟨?_, rfl⟩) fun h3 => ⟨?_, rfl⟩
        · have e3 : v.2.1 = 3 := eq_of_beq h3
          rw [h3]; simp [e3]
        · have e3 : v.2.1 ≠ 3 := ne_of_beq_false h3
          by_cases e5 : v.2.1 = 5
          · simp [e5]
          · simp [e3, e5]
      rintro b w5 ⟨rfl, e5⟩
      have e5 := e5.symm
      subst e5
      refine bc (fun hb => ?_) fun hb => ?_
      rotate_left
      · have hb := of_decide_eq_false hb
        have eQ : aheadQ s v = ([], []) := by unfold aheadQ; rw [if_neg h1, if_neg hb]
        rw [eQ]
        exact ⟨SE.nil _ _ _ _, SE.nil _ _ _ _, by omega, by omega, k1, B1⟩
      have hb := of_decide_eq_true hb
      obtain ⟨i, ei, hi⟩ : ∃ i : Nat, v.2.2 = (i : Int) ∧ i < s.ls.length := by
        rcases hv with ⟨h, _⟩ | ⟨_, h⟩ | h
        · exact absurd h h1
        · exact h
        · omega
      have ti : v.2.2.toNat = i := by omega
      have k1 := k1.drew
      have B1 := B1.drew
      generalize w1.drew = W at *
      have hW := h.chgN k1
      have hz := k1.size
      have hK : ∀ {b j : Nat}, b < W.heap.size → (fun x : Addr => x.block < W.heap.size) ((⟨b, 0, none⟩ : Addr).add j) := fun {b j} hb => by
        show (Addr.add _ _).block < _
        rw [add_block]; exact hb
      obtain ⟨lx, hlx⟩ := get_ex (l := s.ls) hi
      obtain ⟨a, hr, hd, ha, hhx, Qe, Re, c0, c1, c2⟩ := hW.lrow_at hlx
      have eQ : aheadQ s v = (lx.readers ++ (if 0 ≤ lx.writer then [lx.writer] else []), lx.queue) := by unfold aheadQ; rw [if_neg h1, if_pos hb, ti, hlx]
      have lq := hS.q lx.queue (List.mem_of_getElem? (qs_l hlx))
      have lr := hS.r lx (List.mem_of_getElem? hlx)
      have lqe := Qe.len
      have lre := Re.len
      have kc : ∀ x : Addr, x.block = a.block → x.block < W.heap.size := fun x hx => by
        have := cell_some c0
        rw [add_block] at this
        rw [hx]; exact this
      refine ⟨fun x => x.block < W.heap.size, onPtr_mk ⟨_, _, _, hK hW.obj.lt, (hW.obj.cell0 1).trans rfl, v.2.2, hK B1.lt, (B1.cell0 2).trans rfl, ?_⟩⟩
      rw [ti]
      refine onPtr_at ha ⟨by omega, by omega, _, _, _, _, _, _, _, fun j _ => kc _ (by rw [add_block, add_block]), reads3 c0 c1 c2, newBox fun w6 B6 k6 z6 => ⟨k6.keeps, B6.canStore (by simp), fun w7 e7 => ?_⟩⟩
      have B7 : Blk w7 W.heap.size 99 #[.slice hr.1 hr.2.1 hr.2.2, .int .i64 lx.writer, .slice hd.1 hd.2.1 hd.2.2] := B6.over e7 rfl
      have k7 : Chg none_ W w7 := k6.sets' e7 (.inr (Nat.le_refl _))
      have k7 := k7.drew
      have B7 := B7.drew
      generalize w7.drew = V at *
      have hV := k7.size
      obtain ⟨q12, c12, w8, hrun, A8, k8, _, _, _, _⟩ := (SE.nil En.int V w.heap.size 3).append (t := 35) (ty := 35) (c2 := hr.2.2) elemInt (Re.re.chg k7) (by simp only [maxLen]; omega) (by show (0 + hr.2.1) * 8 ≤ _; omega) (by omega)
      have k8' : Chg none_ V w8 := k8.mono fun b _ hb => by simp [qB] at hb
      have B8 := k8'.blk B7 (fun x => x)
      have kW8 := k7.trans k8'
      simp only [Nat.zero_add, List.nil_append] at A8 hrun
      have lA8 := A8.len
      have hK3 : ∀ j : Nat, (fun x : Addr => x.block < V.heap.size) ((⟨W.heap.size, 0, none⟩ : Addr).add j) := fun j => by
        show (Addr.add _ _).block < _
        rw [add_block]; exact B7.lt
      refine ⟨fun x => x.block < V.heap.size, _, _, _, B7.lt, (B7.cell 0).trans rfl, _, _, _, hK3 2, (B7.cell0 2).trans rfl, q12, hr.2.1, c12, w8, hrun, k8'.keeps, _, (B8.cell0 1).trans rfl, ?_⟩
      rw [eQ]
      refine bc (fun hw => ⟨_, (B8.cell0 1).trans rfl, newBox fun w9 B9 k9 _ => ?_⟩) fun hw => ?_
      · have hw : 0 ≤ lx.writer := of_decide_eq_true hw
        have A9 := A8.chgN k9
        obtain ⟨q13, c13, w10, hrun10, A10, k10, _, _⟩ := A9.append1 (t := 35) (ty := 35) (x := lx.writer) elemInt B9 (by simp only [maxLen]; omega) (by show (hr.2.1 + 1) * 8 ≤ _; omega) (by have := kW8.size; have := k9.size; omega)
        have k19 := k1.trans (kW8.trans k9)
        refine ⟨q13, hr.2.1 + 1, c13, w10, hrun10, ?_⟩
        rw [if_pos hw]
        have Q9 := ((Qe.chgN kW8).chgN k9)
        have B9' := (kW8.trans k9).blk B1 (fun x => x)
        exact ⟨A10, Q9.chg k10 fun b hb e => Q9.ne2 A9 (by decide) b hb e, by omega, by show hd.2.1 ≤ 16; rw [← lqe]; exact lq, k19.up k10 fun b hb => (A9.lt hb.symm).2, k10.blk B9' fun e => SE.ne A9 B9' (by decide) _ e.symm rfl⟩
      · have hw : ¬ 0 ≤ lx.writer := of_decide_eq_false hw
        rw [if_neg hw, List.append_nil]
        exact ⟨A8, Qe.chgN kW8, by omega, by show hd.2.1 ≤ 16; rw [← lqe]; exact lq, k1.trans kW8, kW8.blk B1 (fun x => x)⟩
end
end Full
end Go.Proofs.Ytibpbbjlecohiaa
set_option maxRecDepth 20000
namespace Go.Proofs.Ytibpbbjlecohiaa
namespace Full
open Go Go.Vc Go.RowKit
def arcsP (s : S8) : List (Int × Int) := (waitsP s).flatMap fun v => (aheadP s v).map fun t => (v.1, t)
section
variable {w w' : World} {base N Q o : Nat} {g : G8} {s : S8}
theorem arcs35 (h : InvG w base N Q o g s) (hS : Small8 s) (hf : ∀ t v, s.wt t = some v → 0 ≤ t ∧ t < 16) (hval : ∀ t v, s.wt t = some v → Valid s v) :
    Calls Try.prog 35 #[.pointer (some (ad o))] w (Ret fun v w' => ∃ q l c, v = .slice q l c ∧ SE En.i2 w' w.heap.size 82 q l c (arcsP s) ∧ l ≤ 640 ∧ Chg none_ w w') := by
  refine f35.calls _ ?_
  unfold f35.wp
  refine Calls.use (waits34 h hf) ?_
  rintro _ w1 ⟨q1, l1, c1, rfl, S1, hl1, k1⟩
  have hmem : ∀ v ∈ waitsP s, Valid s v := fun v hv => by
    obtain ⟨t, _, ht⟩ := List.mem_filterMap.1 hv
    exact hval _ _ ht
  obtain ⟨ws, hws⟩ : ∃ ws, ws = waitsP s := ⟨_, rfl⟩
  have ea : arcsP s = ws.flatMap fun v => (aheadP s v).map fun t => (v.1, t) := by rw [hws]; rfl
  rw [ea]
  rw [← hws] at S1 hmem
  have lws := S1.len
  refine ⟨q1, l1, c1, rfl, fun q l c x w' => ∃ i : Nat, x = (i : Int) ∧ i ≤ l1 ∧ SE En.i2 w' w.heap.size 82 q l c ((ws.take i).flatMap fun v => (aheadP s v).map fun t => (v.1, t)) ∧ l ≤ 40 * i ∧ Chg none_ w w' ∧ SE En.w3 w' w.heap.size 47 q1 l1 c1 ws, fun _ _ _ x _ => l1 - x.toNat,
    ⟨0, rfl, Nat.zero_le _, SE.nil _ _ _ _, by omega, k1, S1⟩, ?_⟩
  rintro q2 l2 c2 _ w2 ⟨i, rfl, hi, A2, hl2, k2, S2⟩
  refine bc (fun hlt => ?_) fun hge => ?_
  · have hlt : i < l1 := by have := of_decide_eq_true hlt; omega
    obtain ⟨a, v, ha, hv, hr⟩ := S2.re.ex hlt
    have ew : IntKind.wrap .i64 ((i : Int) + 1) = ((i + 1 : Nat) : Int) := by rw [wrapS (by omega) (by omega)]; omega
    rw [ew]
    refine onPtr_at ha ⟨by omega, by omega, _, _, _, hr, boxed rfl rfl fun w4 B4 k4 z4 => ⟨_, _, _, B4.reads0, Calls.use (ahead77 (h.chgN (k2.trans k4)) hS (hmem v (List.mem_of_getElem? hv))) ?_⟩⟩
    rintro _ w5 ⟨q3, l3, c3, rfl, T5, hl3, k5⟩
    have k25 := (k2.trans k4).trans k5
    have lT := T5.len
    refine ⟨q3, l3, c3, rfl, fun q l c x w' => ∃ j : Nat, x = (j : Int) ∧ j ≤ l3 ∧ SE En.i2 w' w.heap.size 82 q l c (((ws.take i).flatMap fun v => (aheadP s v).map fun t => (v.1, t)) ++ ((aheadP s v).take j).map fun t => (v.1, t)) ∧ l ≤ 40 * i + j ∧ Chg none_ w w' ∧ SE En.w3 w' w.heap.size 47 q1 l1 c1 ws ∧ SE En.int w' w4.heap.size 3 q3 l3 c3 (aheadP s v) ∧ Blk w' w2.heap.size 47 (En.w3.enc v).toArray, fun _ _ _ x _ => l3 - x.toNat,
      ⟨0, rfl, Nat.zero_le _, by simpa using (A2.chgN k4).chgN k5, by omega, k25, (S2.chgN k4).chgN k5, T5, k5.blk B4 (fun x => x)⟩, ?_⟩
    rintro q4 l4 c4 _ w6 ⟨j, rfl, hj, A6, hl6, k6, S6, T6, B6⟩
    refine bc (fun hlt2 => ?_) fun hge2 => ?_
    · have hlt2 : j < l3 := by have := of_decide_eq_true hlt2; omega
      obtain ⟨a2, y, ha2, hy, hr2⟩ := T6.re.ex hlt2
      have c0 := reads_at hr2 (i := 0) rfl
      rw [add_zero'] at c0
      have ew2 : IntKind.wrap .i64 ((j : Int) + 1) = ((j + 1 : Nat) : Int) := by rw [wrapS (by omega) (by omega)]; omega
      rw [ew2]
      refine onPtr_at ha2 ⟨by omega, by omega, y, c0, v.1, (B6.cell 0).trans rfl, ?_⟩
      refine pushG (t := 77) elemArc A6 k6 (v.1, y) (by omega) (by decide) rfl fun q' c' w8 A8 k8 hB => ⟨⟨j + 1, rfl, hlt2, ?_, by omega, k8, SE.ofB S6 fun b cs B => hB _ _ _ B (by decide), SE.ofB T6 fun b cs B => hB _ _ _ B (by decide), hB _ _ _ B6 (by decide)⟩, by simp only [Int.toNat_natCast]; omega⟩
      rw [take_next hy, List.map_append, ← List.append_assoc]
      exact A8
    · have hjl : j = l3 := by have := of_decide_eq_false hge2; omega
      subst hjl
      rw [List.take_of_length_le (l := aheadP s v) (by omega)] at A6
      refine ⟨⟨i + 1, rfl, hlt, ?_, by omega, k6, S6⟩, by simp only [Int.toNat_natCast]; omega⟩
      rw [take_next hv, List.flatMap_append]
      simpa using A6
  · have hil : i = l1 := by have := of_decide_eq_false hge; omega
    subst hil
    rw [List.take_of_length_le (by omega)] at A2
    exact ⟨q2, l2, c2, rfl, A2, by omega, k2⟩
end
end Full
end Go.Proofs.Ytibpbbjlecohiaa
