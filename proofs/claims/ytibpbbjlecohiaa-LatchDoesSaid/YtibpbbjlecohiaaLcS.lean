import Derived.Test.YtibpbbjlecohiaaLcD
import Derived.Test.YtibpbbjlecohiaaLcP
set_option maxRecDepth 20000
namespace Go.Proofs.Ytibpbbjlecohiaa
namespace Full
open Go Go.Vc Go.RowKit
/-! # locks, conditions: the document's answer is the program's -/
def kd (b : Bool) : Int := if b then 5 else 3
theorem kd_ne (b : Bool) : (kd b == 0) = false := by cases b <;> rfl
theorem hL_may {l : Lk} (hw : l.writer = -1 ∨ (0 ≤ l.writer ∧ l.readers = [])) (t z : Int) (b : Bool) : mayW (hL l) (t, kd b, z) = mayF l b := by
  unfold hL mayF kd
  rcases hw with h | ⟨h, hr⟩
  · rw [h]
    cases hr : l.readers with
    | nil => cases b <;> rfl
    | cons a r => cases b <;> rfl
  · have h1 : decide (l.writer < 0) = false := by simp; omega
    rw [hr, if_pos h, h1]
    cases b <;> rfl
theorem give_ok' {l : Lk} {x : Wt} (hw : l.writer = -1 ∨ (0 ≤ l.writer ∧ l.readers = [])) (hm : mayF l x.write = true) (ht : 0 ≤ x.task) :
    hL (giveF l x) = hL l ++ [(x.task, kd x.write, 0)] ∧ ((giveF l x).writer = -1 ∨ (0 ≤ (giveF l x).writer ∧ (giveF l x).readers = [])) := by
  simp only [mayF, Bool.and_eq_true, Bool.or_eq_true, decide_eq_true_eq, beq_iff_eq, Bool.not_eq_true'] at hm
  have hw1 : l.writer = -1 := by omega
  unfold giveF
  cases hx : x.write with
  | true =>
    have hr : l.readers = [] := by
      rcases hm.2 with h | h
      · rw [hx] at h; cases h
      · exact List.eq_nil_of_length_eq_zero h
    rw [if_pos rfl]
    refine ⟨?_, .inr ⟨ht, hr⟩⟩
    simp [hL, hr, hw1, kd, ht]
  | false =>
    rw [if_neg (by simp)]
    refine ⟨?_, .inl hw1⟩
    simp [hL, hw1, kd]
def trL (x : Wt) : W3 := (x.task, kd x.write, 0)
theorem trW_l {M L i : Nat} (h : i < L) : trW M L (M + i) = trL := by
  funext x
  unfold trW trL kd
  have h1 : ¬ M + i < M := by omega
  have h2 : M + i < M + L := by omega
  simp only [h1, h2, if_true, if_false]
theorem pass_rows : ∀ (q : List Wt) (rs : List Int) (wr : Int) (q' : List Wt), (wr = -1 ∨ (0 ≤ wr ∧ rs = [])) → (∀ x ∈ q, 0 ≤ x.task) → passW (hL ⟨rs, wr, q'⟩) (q.map trL) = ((passG rs wr q).1, hL (passG rs wr q).2, (passG rs wr q).2.queue.map trL) ∧
    ((passG rs wr q).2.writer = -1 ∨ (0 ≤ (passG rs wr q).2.writer ∧ (passG rs wr q).2.readers = []))
  | [], rs, wr, q', hw, _ => ⟨rfl, hw⟩
  | x :: xs, rs, wr, q', hw, ht => by
    have hmay : mayW (hL ⟨rs, wr, q'⟩) (trL x) = mayF ⟨rs, wr, x :: xs⟩ x.write := (hL_may (l := ⟨rs, wr, q'⟩) hw x.task 0 x.write)
    rw [List.map_cons]
    unfold passW passG
    cases hm : mayF ⟨rs, wr, x :: xs⟩ x.write with
    | false =>
      rw [hm] at hmay
      rw [if_neg (by rw [hmay]; simp), if_neg (by simp)]
      exact ⟨rfl, hw⟩
    | true =>
      rw [hm] at hmay
      rw [if_pos hmay, if_pos rfl]
      obtain ⟨e, hw'⟩ := give_ok' (l := ⟨rs, wr, xs⟩) (x := x) hw hm (ht x (by simp))
      have e' : hL ⟨rs, wr, q'⟩ ++ [trL x] = hL ⟨(giveF ⟨rs, wr, xs⟩ x).readers, (giveF ⟨rs, wr, xs⟩ x).writer, []⟩ := e.symm
      obtain ⟨h1, h2⟩ := pass_rows xs (giveF ⟨rs, wr, xs⟩ x).readers (giveF ⟨rs, wr, xs⟩ x).writer [] hw' fun y hy => ht y (List.mem_cons_of_mem _ hy)
      rw [e', h1]
      exact ⟨rfl, h2⟩
theorem pass_qw {M L j : Nat} : ∀ (q : List Wt) (rs : List Int) (wr : Int) (qs : List (List Wt)) (wt : Int → Option W3), qs[j]? = some q → QW M L qs wt → (rs.Nodup ∧ (∀ x ∈ q, x.task ∉ rs) ∧ ∀ t ∈ rs, 0 ≤ t ∧ t < 16) →
    QW M L (qs.set j (passG rs wr q).2.queue) (unwait wt (passG rs wr q).1) ∧ (passG rs wr q).2.readers.Nodup ∧ (∀ x ∈ (passG rs wr q).2.queue, x.task ∉ (passG rs wr q).2.readers) ∧ ∀ t ∈ (passG rs wr q).2.readers, 0 ≤ t ∧ t < 16
  | [], rs, wr, qs, wt, hj, h, hr => ⟨by show QW M L (qs.set j []) wt; rw [set_same hj]; exact h, hr⟩
  | x :: xs, rs, wr, qs, wt, hj, h, hr => by
    unfold passG
    cases hm : mayF ⟨rs, wr, x :: xs⟩ x.write with
    | false =>
      rw [if_neg (by simp)]
      exact ⟨by show QW M L (qs.set j (x :: xs)) wt; rw [set_same hj]; exact h, hr⟩
    | true =>
      rw [if_pos rfl]
      have hp := h.pop hj
      have hx := h.tk _ (List.mem_of_getElem? hj) x (by simp)
      have hnd := h.nd _ (List.mem_of_getElem? hj)
      rw [List.map_cons, List.nodup_cons] at hnd
      have hr' : (giveF ⟨rs, wr, xs⟩ x).readers.Nodup ∧ (∀ y ∈ xs, y.task ∉ (giveF ⟨rs, wr, xs⟩ x).readers) ∧ ∀ t ∈ (giveF ⟨rs, wr, xs⟩ x).readers, 0 ≤ t ∧ t < 16 := by
        unfold giveF
        split
        · exact ⟨hr.1, fun y hy => hr.2.1 y (List.mem_cons_of_mem _ hy), hr.2.2⟩
        · refine ⟨List.nodup_append.2 ⟨hr.1, by simp, fun a ha b hb => ?_⟩, fun y hy hm' => ?_, fun t ht => ?_⟩
          · simp at hb; subst hb
            exact fun e => hr.2.1 x (by simp) (e ▸ ha)
          · rcases List.mem_append.1 hm' with hm' | hm'
            · exact hr.2.1 y (List.mem_cons_of_mem _ hy) hm'
            · simp at hm'
              exact hnd.1 (List.mem_map.2 ⟨y, hy, hm'⟩)
          · rcases List.mem_append.1 ht with ht | ht
            · exact hr.2.2 t ht
            · simp at ht; subst ht; exact hx
      obtain ⟨h1, h2⟩ := pass_qw xs (giveF ⟨rs, wr, xs⟩ x).readers (giveF ⟨rs, wr, xs⟩ x).writer (qs.set j xs) (updF wt x.task none) (List.getElem?_set_self (get_lt hj)) hp hr'
      rw [List.set_set] at h1
      exact ⟨h1, h2⟩
theorem giveF_w {l : Lk} {x : Wt} (h : l.writer < 16) (hx : x.task < 16) : (giveF l x).writer < 16 := by
  unfold giveF
  split
  · exact hx
  · exact h
theorem pass_w : ∀ (q : List Wt) (rs : List Int) (wr : Int), wr < 16 → (∀ x ∈ q, x.task < 16) → (passG rs wr q).2.writer < 16
  | [], _, _, h, _ => h
  | x :: xs, rs, wr, h, ht => by
    unfold passG
    split
    · exact pass_w xs _ _ (giveF_w (l := ⟨rs, wr, xs⟩) h (ht x (by simp))) fun y hy => ht y (List.mem_cons_of_mem _ hy)
    · exact h
section
variable {s : S8} {r : R8}
theorem idxI_mem (xs : List Int) (t : Int) : 0 ≤ idxI xs t ↔ t ∈ xs := by
  unfold idxI
  cases h : xs.findIdx? (· == t) with
  | none =>
    rw [List.findIdx?_eq_none_iff] at h
    refine ⟨fun h' => absurd (show (0 : Int) ≤ -1 from h') (by omega), fun h' => ?_⟩
    have := h t h'
    simp at this
  | some i =>
    obtain ⟨hi, hp, _⟩ := List.findIdx?_eq_some_iff_getElem.1 h
    refine ⟨fun _ => ?_, fun _ => Int.natCast_nonneg i⟩
    have : xs[i] = t := by simpa using hp
    rw [← this]; exact List.getElem_mem hi
theorem erase_filter {xs : List Int} {t : Int} (hn : xs.Nodup) (hm : t ∈ xs) : xs.take (idxI xs t).toNat ++ xs.drop ((idxI xs t).toNat + 1) = xs.filter fun y => y != t := by
  unfold idxI
  cases h : xs.findIdx? (· == t) with
  | none =>
    rw [List.findIdx?_eq_none_iff] at h
    have := h t hm
    simp at this
  | some i =>
    obtain ⟨hi, hp, hb⟩ := List.findIdx?_eq_some_iff_getElem.1 h
    have e : xs[i] = t := by simpa using hp
    show xs.take ((i : Int)).toNat ++ xs.drop (((i : Int)).toNat + 1) = _
    rw [Int.toNat_natCast]
    have hs : xs = xs.take i ++ t :: xs.drop (i + 1) := by
      have := List.drop_eq_getElem_cons hi
      rw [← e, ← this, List.take_append_drop]
    have hs' := hn
    rw [hs] at hs'
    obtain ⟨_, n2, n3⟩ := List.nodup_append.1 hs'
    obtain ⟨n4, _⟩ := List.nodup_cons.1 n2
    conv => rhs; rw [hs]
    rw [List.filter_append, List.filter_cons_of_neg (by simp)]
    congr 1
    · exact (List.filter_eq_self.2 fun a ha => by simp; exact n3 a ha t (by simp)).symm
    · exact (List.filter_eq_self.2 fun a ha => by simp; exact fun e => n4 (e ▸ ha)).symm
theorem heldL0 {l : Lk} {t : Int} (ht : 0 ≤ t) : heldW (hL l) t 0 = hasF l t := by
  rw [Bool.eq_iff_iff]
  simp only [heldW, hL, hasF, List.any_append, List.any_map, Bool.or_eq_true, List.any_eq_true, beq_iff_eq, decide_eq_true_eq, ge_iff_le, idxI_mem]
  constructor
  · rintro (⟨x, hx, e⟩ | ⟨x, hx, e⟩)
    · simp at e; subst e; exact .inr hx
    · split at hx
      · simp at hx; subst hx; simp at e; exact .inl e
      · simp at hx
  · rintro (h | h)
    · exact .inr ⟨(l.writer, 5, 0), by rw [if_pos (by omega)]; simp, by simp [h]⟩
    · exact .inl ⟨t, h, by simp⟩
theorem heldL3 {l : Lk} {t : Int} : heldW (hL l) t 3 = decide (0 ≤ idxI l.readers t) := by
  rw [Bool.eq_iff_iff]
  simp only [heldW, hL, List.any_append, List.any_map, Bool.or_eq_true, List.any_eq_true, decide_eq_true_eq, idxI_mem]
  constructor
  · rintro (⟨x, hx, e⟩ | ⟨x, hx, e⟩)
    · simp at e; subst e; exact hx
    · split at hx
      · simp at hx; subst hx; simp at e
      · simp at hx
  · intro h
    exact .inl ⟨t, h, by simp⟩
theorem heldL5 {l : Lk} {t : Int} (ht : 0 ≤ t) : heldW (hL l) t 5 = (l.writer == t) := by
  rw [Bool.eq_iff_iff]
  simp only [heldW, hL, List.any_append, List.any_map, Bool.or_eq_true, List.any_eq_true, beq_iff_eq]
  constructor
  · rintro (⟨x, hx, e⟩ | ⟨x, hx, e⟩)
    · simp at e
    · split at hx
      · simp at hx; subst hx; simp at e; exact e
      · simp at hx
  · intro h
    exact .inr ⟨(l.writer, 5, 0), by rw [if_pos (by omega)]; simp, by simp [h]⟩
theorem askL_in {t n : Int} {k : Nat} (h0 : askL t [(n, (k : Int))] s.wt = 0) : (0 ≤ t ∧ t < 16) ∧ s.wt t = none ∧ n = (n.toNat : Int) ∧ n.toNat < k := by
  obtain ⟨ht, ht16, hb, hw⟩ := askL_ok h0
  have hin : inR n k = true := by rw [inR_bad, hb]; rfl
  exact ⟨⟨ht, ht16⟩, hw, inR_nat hin⟩
theorem take_sim (h : Sim s r) (t n : Int) (b : Bool) : (takeLR r t n (kd b)).1 = (takeF s t n (kd b)).1 ∧ (takeLR r t n (kd b)).2.1 = (takeF s t n (kd b)).2.1 ∧ Sim (takeF s t n (kd b)).2.2 (takeLR r t n (kd b)).2.2 := by
  have ea : askedR r t (inR n r.L) = askL t [(n, s.ls.length)] s.wt := by rw [h.rel.eL]; exact asked_eq h.rel h.ws t (inR_bad n _)
  have eb : (kd b == 5) = b := by cases b <;> rfl
  unfold takeLR takeF
  rw [ea, eb]
  by_cases h0 : askL t [(n, s.ls.length)] s.wt = 0
  · have hne : ¬ (askL t [(n, (s.ls.length : Int))] s.wt ≠ 0) := by simp [h0]
    rw [if_neg hne, if_neg hne]
    obtain ⟨ht, hw, en, hn⟩ := askL_in h0
    obtain ⟨l, hl⟩ := get_ex (l := s.ls) hn
    obtain ⟨h1, h2⟩ := h.rel.lrow hl
    rw [trW_l hn] at h2
    rw [h.rel.eM, R8.row_of h1, heldL0 ht.1]
    simp only [hl]
    have hlm := List.mem_of_getElem? hl
    cases hh : hasF l t with
    | true => rw [if_pos rfl, if_pos rfl]; exact ⟨rfl, rfl, h⟩
    | false =>
      rw [if_neg (by simp), if_neg (by simp)]
      have hnr : t ∉ l.readers := fun hm => by
        have : hasF l t = true := by
          simp only [hasF, Bool.or_eq_true, decide_eq_true_eq]
          exact .inr ((idxI_mem _ _).2 hm)
        rw [hh] at this; cases this
      have hmay := hL_may (h.ws.wr l hlm) t 0 b
      have eq0 : l.queue.map trL = [] ↔ l.queue.length = 0 := by simp
      by_cases hc : l.queue.length = 0 ∧ mayF l b = true
      · obtain ⟨hq, hm⟩ := hc
        have hq' : l.queue = [] := List.eq_nil_of_length_eq_zero hq
        obtain ⟨e1, e2⟩ := give_ok' (l := l) (x := ⟨t, b, 0⟩) (h.ws.wr l hlm) hm ht.1
        have et : takeR r (s.ms.length + n.toNat) (t, kd b, 0) = (true, { r with rows := (r.rows.set (2 * (s.ms.length + n.toNat)) (hL (giveF l ⟨t, b, 0⟩))).set (2 * (s.ms.length + n.toNat) + 1) ((giveF l ⟨t, b, 0⟩).queue.map (trW s.ms.length s.ls.length (s.ms.length + n.toNat))) }) := by
          unfold takeR
          rw [R8.row_of h1, R8.row_of h2, if_pos (show l.queue.map trL = [] ∧ mayW (hL l) (t, kd b, 0) = true from ⟨by rw [hq']; rfl, by rw [hmay]; exact hm⟩), e1, giveF_queue, trW_l hn]
          rw [R8.put2 r (i := s.ms.length + n.toNat) (x := hL l ++ [(t, kd b, 0)]) h2]
        rw [et, if_pos ⟨hq, hm⟩]
        refine ⟨rfl, rfl, h.rel.setL hl (giveF l ⟨t, b, 0⟩) s.wt, h.ws.setL hn (l' := giveF l ⟨t, b, 0⟩) (wt' := s.wt) e2 ?_ (giveF_w (h.ws.hw l hlm) ht.2) ?_⟩
        · have hrd := h.ws.rd l hlm
          rw [giveF_queue, hq']
          refine ⟨?_, fun x hx => by simp at hx, ?_⟩
          · unfold giveF
            split
            · exact hrd.1
            · refine List.nodup_append.2 ⟨hrd.1, by simp, fun a ha c hc' => ?_⟩
              simp at hc'; subst hc'
              exact fun e => hnr (e ▸ ha)
          · unfold giveF
            split
            · exact hrd.2.2
            · intro u hu
              rcases List.mem_append.1 hu with hu | hu
              · exact hrd.2.2 u hu
              · simp at hu; subst hu; exact ht
        · rw [giveF_queue, set_same (qs_l hl)]; exact h.ws.qw
      · have hc' : ¬ (l.queue.map trL = [] ∧ mayW (hL l) (t, kd b, 0) = true) := by rw [eq0, hmay]; exact hc
        have et : takeR r (s.ms.length + n.toNat) (t, kd b, 0) = (false, { r with rows := (r.rows.set (2 * (s.ms.length + n.toNat)) (hL ⟨l.readers, l.writer, l.queue ++ [⟨t, b, 0⟩]⟩)).set (2 * (s.ms.length + n.toNat) + 1) ((l.queue ++ [(⟨t, b, 0⟩ : Wt)]).map (trW s.ms.length s.ls.length (s.ms.length + n.toNat))) }) := by
          unfold takeR
          rw [R8.row_of h1, R8.row_of h2, if_neg hc']
          rw [R8.put1 r (i := s.ms.length + n.toNat) (x := l.queue.map trL ++ [(t, kd b, 0)]) h1, trW_l hn, List.map_append]
          rfl
        rw [et, if_neg hc]
        have hpush := h.ws.qw.push (qs_l hl) ⟨t, b, 0⟩ hw ht
        have hen : ent s.ms.length s.ls.length (s.ms.length + n.toNat) ⟨t, b, 0⟩ = (t, kd b, n) := by
          unfold ent kd
          rw [if_neg (by omega), if_pos (by omega), show s.ms.length + n.toNat - s.ms.length = n.toNat by omega, ← en]
        rw [hen] at hpush
        have hrd := h.ws.rd l hlm
        refine ⟨rfl, rfl, h.rel.setL hl ⟨l.readers, l.writer, l.queue ++ [⟨t, b, 0⟩]⟩ (updF s.wt t (some (t, kd b, n))), h.ws.setL hn (l' := ⟨l.readers, l.writer, l.queue ++ [⟨t, b, 0⟩]⟩) (h.ws.wr l hlm) (show l.readers.Nodup ∧ (∀ x ∈ l.queue ++ [(⟨t, b, 0⟩ : Wt)], x.task ∉ l.readers) ∧ ∀ t ∈ l.readers, 0 ≤ t ∧ t < 16 from ⟨hrd.1, fun x hx => ?_, hrd.2.2⟩) (h.ws.hw l hlm) hpush⟩
        rcases List.mem_append.1 hx with hx | hx
        · exact hrd.2.1 x hx
        · simp at hx; subst hx; exact hnr
  · rw [if_pos h0, if_pos h0]
    exact ⟨rfl, rfl, h⟩
/-- a lock is given back -/
theorem giveS (h : Sim s r) {i : Nat} {l l0 : Lk} (hl : s.ls[i]? = some l) {t : Int} (e0 : hL l0 = (hL l).filter fun y => y.1 != t) (eq0 : l0.queue = l.queue) (hw : l0.writer = -1 ∨ (0 ≤ l0.writer ∧ l0.readers = [])) (hr : l0.readers.Nodup ∧ (∀ x ∈ l.queue, x.task ∉ l0.readers) ∧ ∀ t ∈ l0.readers, 0 ≤ t ∧ t < 16) (h16 : l0.writer < 16) :
    (giveR r (s.ms.length + i) t).1 = (passS s i l0).1 ∧ Sim (passS s i l0).2 (giveR r (s.ms.length + i) t).2 := by
  have hi := get_lt hl
  obtain ⟨h1, h2⟩ := h.rel.lrow hl
  rw [trW_l hi] at h2
  obtain ⟨rs, wr, q⟩ := l0
  simp only at eq0
  subst eq0
  have htk : ∀ x ∈ l.queue, 0 ≤ x.task := fun x hx => (h.ws.qw.tk _ (List.mem_of_getElem? (qs_l hl)) x hx).1
  obtain ⟨e1, e2⟩ := pass_rows l.queue rs wr l.queue hw htk
  obtain ⟨e3, e4⟩ := pass_qw (j := s.ms.length + i) l.queue rs wr s.qs s.wt (qs_l hl) h.ws.qw hr
  have eg : giveR r (s.ms.length + i) t = ((passG rs wr l.queue).1, { r with rows := (r.rows.set (2 * (s.ms.length + i)) (hL (passG rs wr l.queue).2)).set (2 * (s.ms.length + i) + 1) ((passG rs wr l.queue).2.queue.map (trW s.ms.length s.ls.length (s.ms.length + i))) }) := by
    unfold giveR
    rw [R8.row_of h1, R8.row_of h2, ← e0, e1, trW_l hi]
    rfl
  rw [eg]
  exact ⟨rfl, h.rel.setL hl (passG rs wr l.queue).2 (unwait s.wt (passG rs wr l.queue).1), h.ws.setL hi (l' := (passG rs wr l.queue).2) e2 e4 (pass_w l.queue rs wr h16 fun x hx => (h.ws.qw.tk _ (List.mem_of_getElem? (qs_l hl)) x hx).2) e3⟩
theorem run_sim (h : Sim s r) (t n : Int) : (giveLR r t n 3).1 = (runF s t n).1 ∧ (giveLR r t n 3).2.1 = (runF s t n).2.1 ∧ Sim (runF s t n).2.2 (giveLR r t n 3).2.2 := by
  have ea : askedR r t (inR n r.L) = askL t [(n, s.ls.length)] s.wt := by rw [h.rel.eL]; exact asked_eq h.rel h.ws t (inR_bad n _)
  unfold giveLR runF
  rw [ea]
  by_cases h0 : askL t [(n, s.ls.length)] s.wt = 0
  · have hne : ¬ (askL t [(n, (s.ls.length : Int))] s.wt ≠ 0) := by simp [h0]
    rw [if_neg hne, if_neg hne]
    obtain ⟨ht, hw, en, hn⟩ := askL_in h0
    obtain ⟨l, hl⟩ := get_ex (l := s.ls) hn
    obtain ⟨h1, h2⟩ := h.rel.lrow hl
    rw [h.rel.eM, R8.row_of h1, heldL3]
    simp only [hl]
    have hlm := List.mem_of_getElem? hl
    by_cases hi : 0 ≤ idxI l.readers t
    · rw [if_neg (by simp [hi]), if_neg (by omega)]
      have hm := (idxI_mem _ _).1 hi
      have hrd := h.ws.rd l hlm
      have ef := erase_filter hrd.1 hm
      have hw1 : l.writer = -1 := by
        rcases h.ws.wr l hlm with h | ⟨_, h⟩
        · exact h
        · rw [h] at hm; simp at hm
      obtain ⟨a, b⟩ := giveS h hl (l0 := ⟨l.readers.take (idxI l.readers t).toNat ++ l.readers.drop ((idxI l.readers t).toNat + 1), l.writer, l.queue⟩) (t := t) (by
        rw [ef]
        simp only [hL, hw1]
        rw [if_neg (by omega), List.append_nil, List.append_nil, List.filter_map]
        rfl) rfl (.inl hw1) (by
        show (_ : List Int).Nodup ∧ _
        rw [ef]
        exact ⟨hrd.1.sublist List.filter_sublist, fun x hx hx' => hrd.2.1 x hx (List.mem_filter.1 hx').1, fun u hu => hrd.2.2 u (List.mem_filter.1 hu).1⟩) (h.ws.hw l hlm)
      exact ⟨a, rfl, b⟩
    · rw [if_pos (by simpa using hi), if_pos (by omega)]
      exact ⟨rfl, rfl, h⟩
  · rw [if_pos h0, if_pos h0]
    exact ⟨rfl, rfl, h⟩
theorem wun_sim (h : Sim s r) (t n : Int) : (giveLR r t n 5).1 = (wunF s t n).1 ∧ (giveLR r t n 5).2.1 = (wunF s t n).2.1 ∧ Sim (wunF s t n).2.2 (giveLR r t n 5).2.2 := by
  have ea : askedR r t (inR n r.L) = askL t [(n, s.ls.length)] s.wt := by rw [h.rel.eL]; exact asked_eq h.rel h.ws t (inR_bad n _)
  unfold giveLR wunF
  rw [ea]
  by_cases h0 : askL t [(n, s.ls.length)] s.wt = 0
  · have hne : ¬ (askL t [(n, (s.ls.length : Int))] s.wt ≠ 0) := by simp [h0]
    rw [if_neg hne, if_neg hne]
    obtain ⟨ht, hw, en, hn⟩ := askL_in h0
    obtain ⟨l, hl⟩ := get_ex (l := s.ls) hn
    obtain ⟨h1, h2⟩ := h.rel.lrow hl
    rw [h.rel.eM, R8.row_of h1, heldL5 ht.1]
    simp only [hl]
    have hlm := List.mem_of_getElem? hl
    by_cases ho : l.writer = t
    · rw [if_neg (show ¬ (l.writer == t) = false by simp [ho]), if_neg (show ¬ (l.writer ≠ t) by simp [ho])]
      have hrd := h.ws.rd l hlm
      have hr0 : l.readers = [] := by
        rcases h.ws.wr l hlm with h | ⟨_, h⟩
        · omega
        · exact h
      obtain ⟨a, b⟩ := giveS h hl (l0 := ⟨l.readers, -1, l.queue⟩) (t := t) (by
        simp [hL, hr0, ho, ht.1]) rfl (.inl rfl) hrd (by show (-1 : Int) < 16; decide)
      exact ⟨a, rfl, b⟩
    · rw [if_pos (show (l.writer == t) = false by simpa using ho), if_pos ho]
      exact ⟨rfl, rfl, h⟩
  · rw [if_pos h0, if_pos h0]
    exact ⟨rfl, rfl, h⟩
end
end Full
end Go.Proofs.Ytibpbbjlecohiaa
set_option maxRecDepth 20000
namespace Go.Proofs.Ytibpbbjlecohiaa
namespace Full
open Go Go.Vc Go.RowKit
section
variable {s : S8} {r : R8}
theorem handF_keep (s : S8) (i : Nat) (m : Mx) : (handF s i m).2.cs = s.cs ∧ (handF s i m).2.ls = s.ls ∧ (handF s i m).2.ms.length = s.ms.length ∧ (handF s i m).2.ns = s.ns ∧ ∀ t, s.wt t = none → (handF s i m).2.wt t = none := by
  unfold handF
  cases m.queue with
  | nil => exact ⟨rfl, rfl, by simp, rfl, fun t h => h⟩
  | cons x xs =>
    refine ⟨rfl, rfl, by simp, rfl, fun t h => ?_⟩
    show updF s.wt x.task none t = none
    unfold updF
    split
    · rfl
    · exact h
theorem trW_c {M L i : Nat} : trW M L (M + L + i) = fun x : Wt => (x.task, 7, x.mutex) := by
  funext x
  unfold trW
  have h1 : ¬ M + L + i < M := by omega
  have h2 : ¬ M + L + i < M + L := by omega
  simp only [h1, h2, if_false]
theorem wait_sim (h : Sim s r) (t n m : Int) : (waitR r t n m).1 = (waitF s t n m).1 ∧ (waitR r t n m).2.1 = (waitF s t n m).2.1 ∧ Sim (waitF s t n m).2.2 (waitR r t n m).2.2 := by
  have ea : askedR r t (inR n r.C && inR m r.M) = askL t [(n, s.cs.length), (m, s.ms.length)] s.wt := by rw [h.rel.eC, h.rel.eM]; exact asked_eq h.rel h.ws t (inR_bad2 n m _ _)
  unfold waitR waitF
  rw [ea]
  by_cases h0 : askL t [(n, s.cs.length), (m, s.ms.length)] s.wt = 0
  · have hne : ¬ (askL t [(n, (s.cs.length : Int)), (m, (s.ms.length : Int))] s.wt ≠ 0) := by simp [h0]
    rw [if_neg hne, if_neg hne]
    obtain ⟨ht, ht16, hb, hw⟩ := askL_ok h0
    have hin : (inR n s.cs.length && inR m s.ms.length) = true := by rw [inR_bad2, hb]; rfl
    rw [Bool.and_eq_true] at hin
    obtain ⟨en, hn⟩ := inR_nat hin.1
    obtain ⟨em, hm⟩ := inR_nat hin.2
    obtain ⟨mx, hmx⟩ := get_ex (l := s.ms) hm
    obtain ⟨xs, hxs⟩ := get_ex (l := s.cs) hn
    obtain ⟨h1, _⟩ := h.rel.mrow hmx
    rw [R8.row_of h1, hM_held ht]
    simp only [hmx, hxs]
    by_cases ho : mx.owner = t
    · rw [if_neg (show ¬ (mx.owner == t) = false by simp [ho]), if_neg (show ¬ (mx.owner ≠ t) by simp [ho])]
      obtain ⟨a, b⟩ := handS h hmx ht ho
      obtain ⟨k1, k2, k3, k4, k5⟩ := handF_keep s m.toNat mx
      refine ⟨a, rfl, ?_⟩
      have hcs : (handF s m.toNat mx).2.cs[n.toNat]? = some xs := by rw [k1]; exact hxs
      have hrow := b.rel.crow hcs
      have eM := b.rel.eM
      have eL := b.rel.eL
      have eM' : (giveR r m.toNat t).2.M = r.M := rfl
      have eL' : (giveR r m.toNat t).2.L = r.L := rfl
      have hpush := b.ws.qw.push (qs_c hcs) ⟨t, false, m⟩ (k5 t hw) ⟨ht, ht16⟩
      have hen : ent (handF s m.toNat mx).2.ms.length (handF s m.toNat mx).2.ls.length ((handF s m.toNat mx).2.ms.length + (handF s m.toNat mx).2.ls.length + n.toNat) ⟨t, false, m⟩ = (t, 7, n) := by
        unfold ent
        rw [if_neg (by omega), if_neg (by omega), show (handF s m.toNat mx).2.ms.length + (handF s m.toNat mx).2.ls.length + n.toNat - (handF s m.toNat mx).2.ms.length - (handF s m.toNat mx).2.ls.length = n.toNat by omega, ← en]
      rw [hen] at hpush
      have e3 : (giveR r m.toNat t).2.put (2 * (r.M + r.L) + n.toNat) ((giveR r m.toNat t).2.row (2 * (r.M + r.L) + n.toNat) ++ [(t, 7, m)]) = { (giveR r m.toNat t).2 with rows := (giveR r m.toNat t).2.rows.set (2 * ((handF s m.toNat mx).2.ms.length + (handF s m.toNat mx).2.ls.length) + n.toNat) ((xs ++ [(⟨t, false, m⟩ : Wt)]).map (trW (handF s m.toNat mx).2.ms.length (handF s m.toNat mx).2.ls.length ((handF s m.toNat mx).2.ms.length + (handF s m.toNat mx).2.ls.length + n.toNat))) } := by
        rw [← eM', ← eL', eM, eL, R8.row_of hrow, trW_c, List.map_append]
        rfl
      rw [e3]
      have hs := b.rel.setC hcs (xs ++ [⟨t, false, m⟩]) (updF (handF s m.toNat mx).2.wt t (some (t, 7, n)))
      have hws := b.ws.setC (i := n.toNat) (q' := xs ++ [⟨t, false, m⟩]) (wt' := updF (handF s m.toNat mx).2.wt t (some (t, 7, n))) (fun x hx => by
        rcases List.mem_append.1 hx with hx | hx
        · exact b.ws.mu xs (List.mem_of_getElem? hcs) x hx
        · simp at hx; subst hx
          show 0 ≤ m ∧ m < _
          rw [k3]; omega) hpush
      rw [k1] at hs hws
      exact ⟨hs, hws⟩
    · rw [if_pos (show (mx.owner == t) = false by simpa using ho), if_pos ho]
      exact ⟨rfl, rfl, h⟩
  · rw [if_pos h0, if_pos h0]
    exact ⟨rfl, rfl, h⟩
theorem let_sim (h : Sim s r) (i : Nat) : (letR r i).1 = (letS s i).1 ∧ Sim (letS s i).2 (letR r i).2 := by
  unfold letR letS
  cases hc : s.cs[i]? with
  | none =>
    have : r.row (2 * (r.M + r.L) + i) = [] := by
      unfold R8.row
      rw [List.getElem?_eq_none (by
        have := List.getElem?_eq_none_iff.1 hc
        rw [h.rel.rl, h.rel.eM, h.rel.eL]; omega)]
      rfl
    rw [this]
    exact ⟨rfl, h⟩
  | some q =>
    have hrow := h.rel.crow hc
    rw [trW_c] at hrow
    have er : r.row (2 * (r.M + r.L) + i) = q.map fun x : Wt => (x.task, 7, x.mutex) := by rw [h.rel.eM, h.rel.eL]; exact R8.row_of hrow
    rw [er]
    cases q with
    | nil => exact ⟨rfl, h⟩
    | cons x xs =>
      have hqc := qs_c hc
      have hxt := h.ws.qw.tk _ (List.mem_of_getElem? hqc) x (by simp)
      have hmu := h.ws.mu _ (List.mem_of_getElem? hc) x (by simp)
      obtain ⟨mx, hmx⟩ := get_ex (l := s.ms) (i := x.mutex.toNat) (by omega)
      have eem : ((x.mutex.toNat : Nat) : Int) = x.mutex := by omega
      simp only [List.map_cons, hmx]
      have hpop := h.ws.qw.pop hqc
      have s1 : Sim { s with cs := s.cs.set i xs, wt := updF s.wt x.task none } (r.put (2 * (r.M + r.L) + i) (xs.map fun x : Wt => (x.task, 7, x.mutex))) := by
        refine ⟨?_, h.ws.setC (i := i) (q' := xs) (wt' := updF s.wt x.task none) (fun y hy => h.ws.mu _ (List.mem_of_getElem? hc) y (List.mem_cons_of_mem _ hy)) hpop⟩
        have := h.rel.setC hc xs (updF s.wt x.task none)
        rw [trW_c] at this
        rw [h.rel.eM, h.rel.eL]
        exact this
      obtain ⟨a, b⟩ := takeM s1 (i := x.mutex.toNat) (m := mx) hmx hxt (by simp [updF]) x rfl
      unfold letF
      by_cases ho : mx.owner = -1
      · obtain ⟨a1, a2⟩ := a ho
        rw [if_neg (show ¬ 0 ≤ mx.owner by omega)]
        refine ⟨by rw [a1]; rfl, ?_⟩
        exact a2
      · obtain ⟨b1, b2⟩ := b ho
        have ho' : 0 ≤ mx.owner := by
          rcases h.ws.own mx (List.mem_of_getElem? hmx) with h | h
          · exact h
          · exact absurd h.1 ho
        rw [if_pos ho']
        refine ⟨by rw [b1]; rfl, ?_⟩
        have eu : updF (updF s.wt x.task none) x.task (some (x.task, 1, ((x.mutex.toNat : Nat) : Int))) = updF s.wt x.task (some (x.task, 1, x.mutex)) := by
          funext y
          unfold updF
          rw [eem]
          split <;> rfl
        have b3 : Sim { s with cs := s.cs.set i xs, wt := updF (updF s.wt x.task none) x.task (some (x.task, 1, ((x.mutex.toNat : Nat) : Int))), ms := s.ms.set x.mutex.toNat ⟨mx.owner, mx.queue ++ [x]⟩ } _ := b2
        rw [eu] at b3
        exact b3
theorem sig_sim (h : Sim s r) (t n : Int) : (sigR r t n).1 = (sigF s t n).1 ∧ (sigR r t n).2.1 = (sigF s t n).2.1 ∧ Sim (sigF s t n).2.2 (sigR r t n).2.2 := by
  have ea : askedR r t (inR n r.C) = askL t [(n, s.cs.length)] s.wt := by rw [h.rel.eC]; exact asked_eq h.rel h.ws t (inR_bad n _)
  unfold sigR sigF
  rw [ea]
  by_cases h0 : askL t [(n, s.cs.length)] s.wt = 0
  · have hne : ¬ (askL t [(n, (s.cs.length : Int))] s.wt ≠ 0) := by simp [h0]
    rw [if_neg hne, if_neg hne]
    obtain ⟨a, b⟩ := let_sim h n.toNat
    exact ⟨a, rfl, b⟩
  · rw [if_pos h0, if_pos h0]
    exact ⟨rfl, rfl, h⟩
theorem letN_sim : ∀ (k : Nat) {s : S8} {r : R8} (_ : Sim s r) (i : Nat), (letNR k r i).1 = (letN k s i).1 ∧ Sim (letN k s i).2 (letNR k r i).2
  | 0, _, _, h, _ => ⟨rfl, h⟩
  | k + 1, s, r, h, i => by
    obtain ⟨a, b⟩ := let_sim h i
    obtain ⟨c, d⟩ := letN_sim k b i
    simp only [letNR, letN]
    exact ⟨by rw [a, c], d⟩
theorem bro_sim (h : Sim s r) (t n : Int) : (broR r t n).1 = (broF s t n).1 ∧ (broR r t n).2.1 = (broF s t n).2.1 ∧ Sim (broF s t n).2.2 (broR r t n).2.2 := by
  have ea : askedR r t (inR n r.C) = askL t [(n, s.cs.length)] s.wt := by rw [h.rel.eC]; exact asked_eq h.rel h.ws t (inR_bad n _)
  unfold broR broF
  rw [ea]
  by_cases h0 : askL t [(n, s.cs.length)] s.wt = 0
  · have hne : ¬ (askL t [(n, (s.cs.length : Int))] s.wt ≠ 0) := by simp [h0]
    rw [if_neg hne, if_neg hne]
    have hl : (r.row (2 * (r.M + r.L) + n.toNat)).length = lenQ s n.toNat := by
      unfold lenQ
      cases hc : s.cs[n.toNat]? with
      | none =>
        unfold R8.row
        rw [List.getElem?_eq_none (by
          have := List.getElem?_eq_none_iff.1 hc
          rw [h.rel.rl, h.rel.eM, h.rel.eL]; omega)]
        rfl
      | some q =>
        have hrow := h.rel.crow hc
        rw [h.rel.eM, h.rel.eL, R8.row_of hrow]
        simp
    rw [hl]
    obtain ⟨a, b⟩ := letN_sim (lenQ s n.toNat) h n.toNat
    exact ⟨a, rfl, b⟩
  · rw [if_pos h0, if_pos h0]
    exact ⟨rfl, rfl, h⟩
theorem add_sim (h : Sim s r) (t n b : Int) : (addR r t n b).1 = (addF s t n b).1 ∧ (addR r t n b).2.1 = (addF s t n b).2.1 ∧ Sim (addF s t n b).2.2 (addR r t n b).2.2 := by
  have ea : askedR r t (inR n r.ns.length) = askL t [(n, s.ns.length)] s.wt := by rw [h.rel.en]; exact asked_eq h.rel h.ws t (inR_bad n _)
  unfold addR addF
  rw [ea, h.rel.en]
  by_cases h0 : askL t [(n, s.ns.length)] s.wt = 0
  · have hne : ¬ (askL t [(n, (s.ns.length : Int))] s.wt ≠ 0) := by simp [h0]
    rw [if_neg hne, if_neg hne]
    cases hn : s.ns[n.toNat]? with
    | none => exact ⟨rfl, rfl, h⟩
    | some v =>
      refine ⟨rfl, rfl, ⟨⟨h.rel.eM, h.rel.eL, h.rel.eC, rfl, h.rel.rl, h.rel.hm, h.rel.hl, h.rel.q⟩, ⟨h.ws.own, h.ws.wr, h.ws.rd, h.ws.mu, h.ws.ho, h.ws.hw, h.ws.qw⟩⟩⟩
  · rw [if_pos h0, if_pos h0]
    exact ⟨rfl, rfl, h⟩
/-- each call -/
theorem must_sim (h : Sim s r) (t k n m : Int) : (mustR r t k n m).1 = (doesF s t k n m).1 ∧ Sim (doesF s t k n m).2 (mustR r t k n m).2 := by
  unfold mustR doesF
  by_cases h1 : k = 1
  · obtain ⟨a, b, c⟩ := lock_sim h t n
    rw [if_pos h1, if_pos h1, a, b]; exact ⟨rfl, c⟩
  rw [if_neg h1, if_neg h1]
  by_cases h1 : k = 2
  · obtain ⟨a, b, c⟩ := unlock_sim h t n
    rw [if_pos h1, if_pos h1, a, b]; exact ⟨rfl, c⟩
  rw [if_neg h1, if_neg h1]
  by_cases h1 : k = 3
  · obtain ⟨a, b, c⟩ : (takeLR r t n 3).1 = (takeF s t n 3).1 ∧ (takeLR r t n 3).2.1 = (takeF s t n 3).2.1 ∧ Sim (takeF s t n 3).2.2 (takeLR r t n 3).2.2 := take_sim h t n false
    rw [if_pos h1, if_pos h1, a, b]; exact ⟨rfl, c⟩
  rw [if_neg h1, if_neg h1]
  by_cases h1 : k = 4
  · obtain ⟨a, b, c⟩ := run_sim h t n
    rw [if_pos h1, if_pos h1, a, b]; exact ⟨rfl, c⟩
  rw [if_neg h1, if_neg h1]
  by_cases h1 : k = 5
  · obtain ⟨a, b, c⟩ : (takeLR r t n 5).1 = (takeF s t n 5).1 ∧ (takeLR r t n 5).2.1 = (takeF s t n 5).2.1 ∧ Sim (takeF s t n 5).2.2 (takeLR r t n 5).2.2 := take_sim h t n true
    rw [if_pos h1, if_pos h1, a, b]; exact ⟨rfl, c⟩
  rw [if_neg h1, if_neg h1]
  by_cases h1 : k = 6
  · obtain ⟨a, b, c⟩ := wun_sim h t n
    rw [if_pos h1, if_pos h1, a, b]; exact ⟨rfl, c⟩
  rw [if_neg h1, if_neg h1]
  by_cases h1 : k = 7
  · obtain ⟨a, b, c⟩ := wait_sim h t n m
    rw [if_pos h1, if_pos h1, a, b]; exact ⟨rfl, c⟩
  rw [if_neg h1, if_neg h1]
  by_cases h1 : k = 8
  · obtain ⟨a, b, c⟩ := sig_sim h t n
    rw [if_pos h1, if_pos h1, a, b]; exact ⟨rfl, c⟩
  rw [if_neg h1, if_neg h1]
  by_cases h1 : k = 9
  · obtain ⟨a, b, c⟩ := bro_sim h t n
    rw [if_pos h1, if_pos h1, a, b]; exact ⟨rfl, c⟩
  rw [if_neg h1, if_neg h1]
  by_cases h1 : k = 10
  · obtain ⟨a, b, c⟩ := add_sim h t n m
    rw [if_pos h1, if_pos h1, a, b]; exact ⟨rfl, c⟩
  rw [if_neg h1, if_neg h1]
  exact ⟨rfl, h⟩
end
end Full
end Go.Proofs.Ytibpbbjlecohiaa
set_option maxRecDepth 20000
namespace Go.Proofs.Ytibpbbjlecohiaa
namespace Full
open Go Go.Vc Go.RowKit
/-! # what is asked is answered alike -/
theorem ent_cases {M L j : Nat} {x : Wt} {t k z : Int} (h : ent M L j x = (t, k, z)) : x.task = t ∧ ((j < M ∧ k = 1 ∧ z = (j : Int)) ∨ (M ≤ j ∧ j < M + L ∧ k = kd x.write ∧ z = ((j - M : Nat) : Int)) ∨ (M + L ≤ j ∧ k = 7 ∧ z = ((j - M - L : Nat) : Int))) := by
  unfold ent at h
  split at h
  · rename_i h1
    simp only [Prod.mk.injEq] at h
    exact ⟨h.1, .inl ⟨h1, h.2.1.symm, h.2.2.symm⟩⟩
  · rename_i h1
    split at h
    · rename_i h2
      simp only [Prod.mk.injEq] at h
      exact ⟨h.1, .inr (.inl ⟨by omega, h2, h.2.1.symm, h.2.2.symm⟩)⟩
    · rename_i h2
      simp only [Prod.mk.injEq] at h
      exact ⟨h.1, .inr (.inr ⟨by omega, h.2.1.symm, h.2.2.symm⟩)⟩
theorem kd_cases (b : Bool) : kd b = 3 ∨ kd b = 5 := by cases b; exact .inl rfl; exact .inr rfl
theorem fm_nil {α : Type} {f : Nat → List α} {n : Nat} (h : ∀ k, k < n → f k = []) : (List.range n).flatMap f = [] := by
  rw [List.flatMap_eq_nil_iff]
  intro k hk
  exact h k (List.mem_range.1 hk)
theorem fm_one {α : Type} {f : Nat → List α} : ∀ {n j : Nat}, j < n → (∀ k, k < n → k ≠ j → f k = []) → (List.range n).flatMap f = f j
  | n + 1, j, hj, h => by
    rw [fm_succ]
    by_cases e : j = n
    · subst e
      rw [fm_nil fun k hk => h k (by omega) (by omega)]; rfl
    · rw [fm_one (by omega) fun k hk hne => h k (by omega) hne, h n (by omega) (Ne.symm e), List.append_nil]
theorem fm_congr {α : Type} {f g : Nat → List α} {n : Nat} (h : ∀ k, k < n → f k = g k) : (List.range n).flatMap f = (List.range n).flatMap g := by
  induction n with
  | zero => rfl
  | succ n ih => rw [fm_succ, fm_succ, ih fun k hk => h k (by omega), h n (by omega)]
theorem fm_filterMap {α : Type} (f : Nat → Option α) : ∀ n, (List.range n).filterMap f = (List.range n).flatMap fun t => (f t).toList
  | 0 => rfl
  | n + 1 => by
    rw [List.range_succ, List.filterMap_append, fm_filterMap f n, List.flatMap_append]
    cases h : f n <;> simp [h]
/-- of tasks that stand once: the one -/
theorem filter_one : ∀ {q : List Wt} {x : Wt}, (q.map Wt.task).Nodup → x ∈ q → q.filter (fun y => y.task == x.task) = [x]
  | y :: q, x, hn, hx => by
    rw [List.map_cons, List.nodup_cons] at hn
    rcases List.mem_cons.1 hx with rfl | hx
    · rw [List.filter_cons_of_pos (by simp), List.filter_eq_nil_iff.2 fun z hz hc => hn.1 (List.mem_map.2 ⟨z, hz, by simpa using hc⟩)]
    · rw [List.filter_cons_of_neg (by
        simp only [beq_iff_eq]
        exact fun e => hn.1 (e ▸ List.mem_map.2 ⟨x, hx, rfl⟩)), filter_one hn.2 hx]
section
variable {s : S8} {r : R8}
theorem hasW_trW {M L j : Nat} {q : List Wt} {t : Int} : hasW (q.map (trW M L j)) t = true ↔ ∃ x ∈ q, x.task = t := by
  simp only [hasW, List.any_map, List.any_eq_true, Function.comp]
  constructor
  · rintro ⟨x, hx, e⟩; exact ⟨x, hx, by simpa [trW] using e⟩
  · rintro ⟨x, hx, e⟩; exact ⟨x, hx, by simpa [trW] using e⟩
theorem wmi_eq (h : Sim s r) {t : Int} {n : Nat} (hn : n < s.ms.length) : wmi r t n = if s.wt t = some (t, 1, (n : Int)) then [(t, 1, (n : Int))] else [] := by
  obtain ⟨m, hm⟩ := get_ex (l := s.ms) hn
  obtain ⟨_, h1⟩ := h.rel.mrow hm
  unfold wmi
  rw [R8.row_of h1]
  have hiff : hasW (m.queue.map (trW s.ms.length s.ls.length n)) t = true ↔ s.wt t = some (t, 1, (n : Int)) := by
    rw [hasW_trW]
    constructor
    · rintro ⟨x, hx, e⟩
      have := (h.ws.qw.iq (ent s.ms.length s.ls.length n x)).1 ⟨n, _, x, qs_m hm, hx, rfl⟩
      rw [ent_task, e] at this
      rw [this]
      unfold ent
      rw [if_pos hn, e]
    · intro hw
      obtain ⟨j, q, x, hj, hx, he⟩ := (h.ws.qw.iq (t, 1, (n : Int))).2 hw
      obtain ⟨e, hc⟩ := ent_cases he
      have hjn : j = n := by
        rcases hc with ⟨_, _, h3⟩ | ⟨_, _, h2, _⟩ | ⟨_, h2, _⟩
        · omega
        · rcases kd_cases x.write with k | k <;> omega
        · omega
      subst hjn
      rw [qs_m hm] at hj; cases hj
      exact ⟨x, hx, e⟩
  by_cases hc : s.wt t = some (t, 1, (n : Int))
  · rw [if_pos hc, if_pos (hiff.2 hc)]
  · rw [if_neg hc, if_neg fun hh => hc (hiff.1 hh)]
theorem wci_eq (h : Sim s r) {t : Int} {n : Nat} (hn : n < s.cs.length) : wci r t n = if s.wt t = some (t, 7, (n : Int)) then [(t, 7, (n : Int))] else [] := by
  obtain ⟨q, hq⟩ := get_ex (l := s.cs) hn
  have h1 := h.rel.crow hq
  unfold wci
  rw [h.rel.eM, h.rel.eL, R8.row_of h1]
  have hiff : hasW (q.map (trW s.ms.length s.ls.length (s.ms.length + s.ls.length + n))) t = true ↔ s.wt t = some (t, 7, (n : Int)) := by
    rw [hasW_trW]
    constructor
    · rintro ⟨x, hx, e⟩
      have := (h.ws.qw.iq (ent s.ms.length s.ls.length (s.ms.length + s.ls.length + n) x)).1 ⟨_, _, x, qs_c hq, hx, rfl⟩
      rw [ent_task, e] at this
      rw [this]
      unfold ent
      rw [if_neg (by omega), if_neg (by omega), e, show s.ms.length + s.ls.length + n - s.ms.length - s.ls.length = n by omega]
    · intro hw
      obtain ⟨j, q', x, hj, hx, he⟩ := (h.ws.qw.iq (t, 7, (n : Int))).2 hw
      obtain ⟨e, hc⟩ := ent_cases he
      have hjn : j = s.ms.length + s.ls.length + n := by
        rcases hc with ⟨_, h2, h3⟩ | ⟨_, _, h2, _⟩ | ⟨_, h2, _⟩
        · omega
        · rcases kd_cases x.write with k | k <;> omega
        · omega
      subst hjn
      rw [qs_c hq] at hj; cases hj
      exact ⟨x, hx, e⟩
  by_cases hc : s.wt t = some (t, 7, (n : Int))
  · rw [if_pos hc, if_pos (hiff.2 hc)]
  · rw [if_neg hc, if_neg fun hh => hc (hiff.1 hh)]
theorem wli_eq (h : Sim s r) {t : Int} {n : Nat} (hn : n < s.ls.length) : wli r t n = match s.wt t with
    | some v => if (v.2.1 = 3 ∨ v.2.1 = 5) ∧ v.2.2 = (n : Int) then [v] else []
    | none => [] := by
  obtain ⟨l, hl⟩ := get_ex (l := s.ls) hn
  obtain ⟨_, h1⟩ := h.rel.lrow hl
  rw [trW_l hn] at h1
  have hql := qs_l hl
  have hnd := h.ws.qw.nd _ (List.mem_of_getElem? hql)
  have ef : (l.queue.map trL).filter (fun s => s.1 == t) = (l.queue.filter fun x => x.task == t).map trL := by rw [List.filter_map]; rfl
  unfold wli
  rw [h.rel.eM, R8.row_of h1, ef]
  have iq : ∀ x ∈ l.queue, s.wt x.task = some (x.task, kd x.write, (n : Int)) := fun x hx => by
    have := (h.ws.qw.iq (ent s.ms.length s.ls.length (s.ms.length + n) x)).1 ⟨_, _, x, hql, hx, rfl⟩
    rw [ent_task] at this
    rw [this]
    unfold ent kd
    rw [if_neg (by omega), if_pos (by omega), show s.ms.length + n - s.ms.length = n by omega]
  by_cases hx : ∃ x ∈ l.queue, x.task = t
  · obtain ⟨x, hx, rfl⟩ := hx
    rw [filter_one hnd hx, iq x hx]
    show [(x.task, kd x.write, (n : Int))] = _
    exact (if_pos (show (kd x.write = 3 ∨ kd x.write = 5) ∧ (n : Int) = (n : Int) from ⟨kd_cases _, rfl⟩)).symm
  · rw [List.filter_eq_nil_iff.2 fun x hx' hc => hx ⟨x, hx', by simpa using hc⟩]
    cases hw : s.wt t with
    | none => rfl
    | some v =>
      show [] = if _ then _ else _
      rw [if_neg]
      rintro ⟨hk, hz⟩
      have hkey := h.ws.qw.key t v hw
      obtain ⟨j, q', x, hj, hx', he⟩ := (h.ws.qw.iq v).2 (by rw [hkey]; exact hw)
      obtain ⟨e, hc⟩ := ent_cases (t := v.1) (k := v.2.1) (z := v.2.2) he
      have hjn : j = s.ms.length + n := by
        rcases hc with ⟨_, h2, h3⟩ | ⟨_, _, _, h4⟩ | ⟨_, h2, _⟩
        · omega
        · omega
        · omega
      subst hjn
      rw [hql] at hj; cases hj
      exact hx ⟨x, hx', by rw [e, hkey]⟩
theorem Sim.valid (h : Sim s r) {t : Int} {v : W3} (hw : s.wt t = some v) : v.1 = t ∧ (0 ≤ t ∧ t < 16) ∧ ∃ j q x, s.qs[j]? = some q ∧ x ∈ q ∧ x.task = t ∧ ((j < s.ms.length ∧ v.2.1 = 1 ∧ v.2.2 = (j : Int)) ∨ (s.ms.length ≤ j ∧ j < s.ms.length + s.ls.length ∧ v.2.1 = kd x.write ∧ v.2.2 = ((j - s.ms.length : Nat) : Int)) ∨ (s.ms.length + s.ls.length ≤ j ∧ v.2.1 = 7 ∧ v.2.2 = ((j - s.ms.length - s.ls.length : Nat) : Int))) := by
  have hkey := h.ws.qw.key t v hw
  obtain ⟨j, q, x, hj, hx, he⟩ := (h.ws.qw.iq v).2 (by rw [hkey]; exact hw)
  obtain ⟨e, hc⟩ := ent_cases (t := v.1) (k := v.2.1) (z := v.2.2) he
  have := h.ws.qw.tk _ (List.mem_of_getElem? hj) x hx
  rw [hkey] at e
  exact ⟨hkey, by omega, j, q, x, hj, hx, e, hc⟩
theorem wti_eq (h : Sim s r) (t : Int) : wti r t = (s.wt t).toList := by
  unfold wti
  rw [h.rel.eM, h.rel.eL, h.rel.eC]
  have e1 := fm_congr (n := s.ms.length) fun n hn => wmi_eq h (t := t) hn
  have e2 := fm_congr (n := s.ls.length) fun n hn => wli_eq h (t := t) hn
  have e3 := fm_congr (n := s.cs.length) fun n hn => wci_eq h (t := t) hn
  rw [e1, e2, e3]
  cases hw : s.wt t with
  | none =>
    rw [fm_nil fun k _ => if_neg (by simp), fm_nil fun k _ => rfl, fm_nil fun k _ => if_neg (by simp)]
    rfl
  | some v =>
    obtain ⟨hkey, ht, j, q, x, hj, hx, e, hc⟩ := h.valid hw
    have hjl := get_lt hj
    rw [qs_len] at hjl
    obtain ⟨v1, v2, v3⟩ := v
    simp only at hkey hc
    subst hkey
    rcases hc with ⟨h1, h2, h3⟩ | ⟨h1, h1', h2, h3⟩ | ⟨h1, h2, h3⟩
    · subst h2; subst h3
      rw [fm_one (j := j) h1 fun k _ hne => if_neg (by simp; omega), if_pos rfl, fm_nil fun k _ => if_neg (by simp), fm_nil fun k _ => if_neg (by simp)]
      rfl
    · have hk := kd_cases x.write
      rw [← h2] at hk
      rw [fm_nil fun k _ => if_neg (by simp; omega), fm_one (j := j - s.ms.length) (by omega) fun k _ hne => if_neg (by simp only; omega), if_pos (show (v2 = 3 ∨ v2 = 5) ∧ v3 = ((j - s.ms.length : Nat) : Int) from ⟨hk, h3⟩), fm_nil fun k _ => if_neg (by simp; omega)]
      rfl
    · subst h2; subst h3
      rw [fm_nil fun k _ => if_neg (by simp), fm_nil fun k _ => if_neg (by simp), fm_one (j := j - s.ms.length - s.ls.length) (by omega) fun k _ hne => if_neg (by simp; omega), if_pos rfl]
      rfl
theorem waits_same (h : Sim s r) : waitsL r 16 = waitsP s := by
  unfold waitsL waitsP
  rw [fm_filterMap]
  exact fm_congr fun t _ => wti_eq h (t : Int)
theorem Sim.hf (h : Sim s r) : ∀ t v, s.wt t = some v → 0 ≤ t ∧ t < 16 := fun _ _ hw => (h.valid hw).2.1
theorem Sim.val (h : Sim s r) : ∀ t v, s.wt t = some v → Valid s v := fun t v hw => by
  obtain ⟨_, _, j, q, x, hj, _, _, hc⟩ := h.valid hw
  have hjl := get_lt hj
  rw [qs_len] at hjl
  rcases hc with ⟨h1, h2, h3⟩ | ⟨h1, h1', h2, h3⟩ | ⟨h1, h2, h3⟩
  · exact .inl ⟨h2, j, h3, h1⟩
  · refine .inr (.inl ⟨by rw [h2]; exact kd_cases _, j - s.ms.length, h3, by omega⟩)
  · exact .inr (.inr h2)
/-- a list of tasks, each once -/
theorem tasks_len {xs : List Int} (hn : xs.Nodup) (h : ∀ t ∈ xs, 0 ≤ t ∧ t < 16) : xs.length ≤ 16 := by
  have hs : xs ⊆ (List.range 16).map fun t : Nat => (t : Int) := fun t ht => by
    have := h t ht
    exact List.mem_map.2 ⟨t.toNat, List.mem_range.2 (by omega), by omega⟩
  have := hn.length_le_of_subset hs
  simpa using this
theorem Sim.small8 (h : Sim s r) : Small8 s := by
  refine ⟨fun q hq => ?_, fun l hl => ?_⟩
  · have := tasks_len (h.ws.qw.nd q hq) fun t ht => by
      obtain ⟨x, hx, rfl⟩ := List.mem_map.1 ht
      exact h.ws.qw.tk q hq x hx
    simpa using this
  · have := h.ws.rd l hl
    exact tasks_len this.1 this.2.2
theorem Sim.small (h : Sim s r) (h1 : s.ms.length ≤ 64) (h2 : s.ls.length ≤ 64) (h3 : s.cs.length ≤ 64) : Small r := by
  refine ⟨by rw [h.rel.eM]; exact h1, by rw [h.rel.eL]; exact h2, by rw [h.rel.eC]; exact h3, fun j => ?_⟩
  have hs8 := h.small8
  have hq : ∀ {j : Nat} {q : List Wt} {f : Wt → W3}, s.qs[j]? = some q → (q.map f).length ≤ 16 := fun hj => by
    rw [List.length_map]; exact hs8.q _ (List.mem_of_getElem? hj)
  rcases Nat.lt_or_ge j (2 * s.ms.length) with c1 | c1
  · obtain ⟨m, hm⟩ := get_ex (l := s.ms) (i := j / 2) (by omega)
    obtain ⟨a, b⟩ := h.rel.mrow hm
    rcases Nat.mod_two_eq_zero_or_one j with e | e
    · rw [show j = 2 * (j / 2) by omega, R8.row_of a]
      unfold hM; split <;> simp
    · rw [show j = 2 * (j / 2) + 1 by omega, R8.row_of b]
      exact hq (qs_m hm)
  rcases Nat.lt_or_ge j (2 * (s.ms.length + s.ls.length)) with c2 | c2
  · obtain ⟨l, hl⟩ := get_ex (l := s.ls) (i := j / 2 - s.ms.length) (by omega)
    obtain ⟨a, b⟩ := h.rel.lrow hl
    rcases Nat.mod_two_eq_zero_or_one j with e | e
    · rw [show j = 2 * (s.ms.length + (j / 2 - s.ms.length)) by omega, R8.row_of a]
      have hlm := List.mem_of_getElem? hl
      have hr := hs8.r l hlm
      unfold hL
      rcases h.ws.wr l hlm with hw | ⟨hw, hr0⟩
      · rw [if_neg (by omega)]; simpa using hr
      · rw [hr0, if_pos hw]; simp
    · rw [show j = 2 * (s.ms.length + (j / 2 - s.ms.length)) + 1 by omega, R8.row_of b]
      exact hq (qs_l hl)
  rcases Nat.lt_or_ge j (2 * (s.ms.length + s.ls.length) + s.cs.length) with c3 | c3
  · obtain ⟨q, hq'⟩ := get_ex (l := s.cs) (i := j - 2 * (s.ms.length + s.ls.length)) (by omega)
    have a := h.rel.crow hq'
    rw [show j = 2 * (s.ms.length + s.ls.length) + (j - 2 * (s.ms.length + s.ls.length)) by omega, R8.row_of a]
    exact hq (qs_c hq')
  · rw [R8.row, List.getElem?_eq_none (by rw [h.rel.rl]; omega)]
    simp
theorem Sim.condM (h : Sim s r) : CondM r := fun i y hy => by
  rw [h.rel.eM, h.rel.eL] at *
  rcases Nat.lt_or_ge i s.cs.length with hi | hi
  · obtain ⟨q, hq⟩ := get_ex (l := s.cs) hi
    have a := h.rel.crow hq
    rw [trW_c] at a
    rw [R8.row_of a] at hy
    obtain ⟨x, hx, rfl⟩ := List.mem_map.1 hy
    exact h.ws.mu q (List.mem_of_getElem? hq) x hx
  · rw [R8.row, List.getElem?_eq_none (by rw [h.rel.rl]; omega)] at hy
    simp at hy
/-! ## who holds -/
theorem filter_oneI : ∀ {xs : List Int} {t : Int}, xs.Nodup → t ∈ xs → xs.filter (fun y => y == t) = [t]
  | a :: xs, t, hn, ht => by
    obtain ⟨h1, h2⟩ := List.nodup_cons.1 hn
    rcases List.mem_cons.1 ht with rfl | ht
    · rw [List.filter_cons_of_pos (by simp), List.filter_eq_nil_iff.2 fun z hz hc => h1 (by
        have : z = t := by simpa using hc
        rw [← this]; exact hz)]
    · rw [List.filter_cons_of_neg (by
        simp only [beq_iff_eq]
        exact fun e => h1 (e ▸ ht)), filter_oneI h2 ht]
theorem hmr_eq (h : Sim s r) {t : Int} {n : Nat} (hn : n < s.ms.length) : hmr r t n = if t < 0 then [] else hmi s t n := by
  obtain ⟨m, hm⟩ := get_ex (l := s.ms) hn
  obtain ⟨h0, _⟩ := h.rel.mrow hm
  unfold hmr hmi
  rw [R8.row_of h0, hm]
  by_cases ht : t < 0
  · rw [if_pos ht, if_neg]
    rcases h.ws.own m (List.mem_of_getElem? hm) with ho | ⟨ho, _⟩
    · simp [heldW, hM, show m.owner ≠ -1 by omega]
      omega
    · simp [heldW, hM, ho]
  · rw [if_neg ht, hM_held (by omega)]
    by_cases ho : m.owner = t
    · rw [if_pos (by simpa using ho)]; exact (if_pos ho).symm
    · rw [if_neg (by simpa using ho)]; exact (if_neg ho).symm
theorem hlr_eq (h : Sim s r) {t : Int} {n : Nat} (hn : n < s.ls.length) : hlr r t n = if t < 0 then [] else hli s t n := by
  obtain ⟨l, hl⟩ := get_ex (l := s.ls) hn
  obtain ⟨h0, _⟩ := h.rel.lrow hl
  have hlm := List.mem_of_getElem? hl
  have hrd := h.ws.rd l hlm
  have e1 : ((l.readers.map fun t => ((t, 3, 0) : W3)).filter fun s => s.1 == t) = (l.readers.filter fun y => y == t).map fun t => ((t, 3, 0) : W3) := by rw [List.filter_map]; rfl
  unfold hlr hli
  rw [h.rel.eM, R8.row_of h0, hl]
  show ((hL l).filter _).map _ = if t < 0 then [] else _
  unfold hL
  rw [List.filter_append, List.map_append, e1]
  by_cases ht : t < 0
  · rw [if_pos ht, List.filter_eq_nil_iff.2 fun a ha hc => by
      have : a = t := by simpa using hc
      have := hrd.2.2 a ha
      omega]
    by_cases hw : 0 ≤ l.writer
    · rw [if_pos hw, List.filter_cons_of_neg (by simp; omega)]; rfl
    · rw [if_neg hw]; rfl
  · rw [if_neg ht]
    congr 1
    · by_cases hm : t ∈ l.readers
      · rw [filter_oneI hrd.1 hm]; exact (if_pos ((idxI_mem _ _).2 hm)).symm
      · rw [List.filter_eq_nil_iff.2 fun a ha hc => hm (by
          have : a = t := by simpa using hc
          rw [← this]; exact ha)]
        exact (if_neg fun h => hm ((idxI_mem _ _).1 h)).symm
    · by_cases hw : l.writer = t
      · rw [if_pos (show 0 ≤ l.writer by omega), List.filter_cons_of_pos (by simpa using hw)]
        exact (if_pos hw).symm
      · by_cases hw0 : 0 ≤ l.writer
        · rw [if_pos hw0, List.filter_cons_of_neg (by simpa using hw)]; exact (if_neg hw).symm
        · rw [if_neg hw0]; exact (if_neg hw).symm
theorem holds_same (h : Sim s r) (t : Int) : holdsR r t = holdsF s t := by
  unfold holdsR holdsF
  rw [h.rel.eM, h.rel.eL, fm_congr fun n hn => hmr_eq h (t := t) hn, fm_congr fun n hn => hlr_eq h (t := t) hn]
  by_cases ht : t < 0
  · rw [if_pos ht, fm_nil fun k _ => if_pos ht, fm_nil fun k _ => if_pos ht]; rfl
  · rw [if_neg ht, fm_congr fun k _ => if_neg ht, fm_congr fun k _ => if_neg ht]; rfl
/-! ## who waits for whom -/
theorem dqp_ok : ∀ {p : Int} {xs : List Int}, (p :: xs).Pairwise (fun a b => a ≤ b) → (∀ z ∈ dqp (fun a b : Int => a == b) p xs, p < z) ∧ (dqp (fun a b : Int => a == b) p xs).Pairwise (fun a b => a < b) ∧ ∀ z, z ∈ p :: dqp (fun a b : Int => a == b) p xs ↔ z ∈ p :: xs
  | _, [], _ => ⟨fun z hz => by simp [dqp] at hz, List.Pairwise.nil, fun z => Iff.rfl⟩
  | p, y :: xs, h => by
    obtain ⟨h1, h2⟩ := List.pairwise_cons.1 h
    obtain ⟨a, b, c⟩ := dqp_ok h2
    have hpy := h1 y (by simp)
    unfold dqp
    by_cases e : y = p
    · rw [if_pos (by simpa using e)]
      subst e
      refine ⟨a, b, fun z => ?_⟩
      rw [c z]; simp
    · rw [if_neg (by simpa using e)]
      refine ⟨fun z hz => ?_, List.pairwise_cons.2 ⟨a, b⟩, fun z => ?_⟩
      · rcases List.mem_cons.1 hz with rfl | hz
        · omega
        · have := a z hz; omega
      · rw [List.mem_cons, c z, ← List.mem_cons]
theorem dq_ok {xs : List Int} (h : xs.Pairwise fun a b => a ≤ b) : (dq (fun a b : Int => a == b) xs).Pairwise (fun a b => a < b) ∧ ∀ z, z ∈ dq (fun a b : Int => a == b) xs ↔ z ∈ xs := by
  cases xs with
  | nil => exact ⟨List.Pairwise.nil, fun z => Iff.rfl⟩
  | cons x r =>
    obtain ⟨a, b, c⟩ := dqp_ok h
    exact ⟨List.pairwise_cons.2 ⟨a, b⟩, c⟩
theorem lt_ext {xs ys : List Int} (hx : xs.Pairwise fun a b => a < b) (hy : ys.Pairwise fun a b => a < b) (h : ∀ z, z ∈ xs ↔ z ∈ ys) : xs = ys := by
  refine List.Perm.eq_of_pairwise (le := fun a b => a < b) (fun a b _ _ h1 h2 => by omega) hx hy ((List.perm_ext_iff_of_nodup (hx.imp fun h => by omega) (hy.imp fun h => by omega)).2 h)
theorem arc_fm (X : List Int) (t : Int) : ∀ n, (List.range n).flatMap (arcI X t) = (((List.range n).filter fun k : Nat => X.contains (k : Int)).map fun k : Nat => (k : Int)).map fun z => (t, z)
  | 0 => rfl
  | n + 1 => by
    rw [fm_succ, arc_fm X t n, List.range_succ, List.filter_append, List.map_append, List.map_append]
    congr 1
    unfold arcI
    by_cases hc : X.contains (n : Int) = true
    · rw [if_pos hc, List.filter_cons_of_pos (by simpa using hc)]; rfl
    · rw [if_neg hc, List.filter_cons_of_neg (p := fun k : Nat => X.contains (k : Int)) hc]; rfl
theorem arc_core {X : List Int} (hX : ∀ x ∈ X, 0 ≤ x ∧ x < 16) (t : Int) : (List.range 16).flatMap (arcI X t) = (dq (fun a b : Int => a == b) (X.mergeSort fun x y => decide (x ≤ y))).map fun z => (t, z) := by
  rw [arc_fm]
  congr 1
  have tr : ∀ a b c : Int, decide (a ≤ b) = true → decide (b ≤ c) = true → decide (a ≤ c) = true := fun a b c h1 h2 => by simp only [decide_eq_true_eq] at *; omega
  have to : ∀ a b : Int, (decide (a ≤ b) || decide (b ≤ a)) = true := fun a b => by simp only [Bool.or_eq_true, decide_eq_true_eq]; omega
  have hs := (List.pairwise_mergeSort tr to X).imp fun h => of_decide_eq_true h
  obtain ⟨h1, h2⟩ := dq_ok hs
  refine lt_ext ?_ h1 fun z => ?_
  · refine List.pairwise_map.2 ?_
    exact ((List.pairwise_lt_range (n := 16)).sublist List.filter_sublist).imp fun h => by omega
  · rw [h2 z, (List.mergeSort_perm X _).mem_iff]
    simp only [List.mem_map, List.mem_filter, List.mem_range, List.contains_iff_mem]
    constructor
    · rintro ⟨k, ⟨_, hk⟩, rfl⟩; exact hk
    · intro hz
      have := hX z hz
      exact ⟨z.toNat, ⟨by omega, by rw [show ((z.toNat : Nat) : Int) = z by omega]; exact hz⟩, by omega⟩
theorem fm_fm {α β : Type} (f : Nat → Option α) (F : α → List β) : ∀ l : List Nat, (l.filterMap f).flatMap F = l.flatMap fun t => match f t with
    | some v => F v
    | none => []
  | [] => rfl
  | a :: l => by
    rw [List.flatMap_cons, ← fm_fm f F l]
    cases h : f a with
    | none => rw [List.filterMap_cons_none h]; rfl
    | some v => rw [List.filterMap_cons_some h, List.flatMap_cons]
theorem whom_no {hs : List W3} {q : List Wt} {M L j : Nat} {t : Int} (h : ∀ x ∈ q, x.task ≠ t) : whomL hs (q.map (trW M L j)) t = [] := by
  unfold whomL
  rw [if_neg]
  rw [hasW_trW]
  rintro ⟨x, hx, e⟩
  exact h x hx e
theorem whom_yes {hs : List W3} {q : List Wt} {M L j : Nat} {t : Int} {x : Wt} (hx : x ∈ q) (e : x.task = t) : whomL hs (q.map (trW M L j)) t = hs.map Prod.fst ++ (q.takeWhile fun x => x.task != t).map Wt.task := by
  unfold whomL
  rw [if_pos (hasW_trW.2 ⟨x, hx, e⟩)]
  congr 1
  rw [List.takeWhile_map, List.map_map]
  rfl
theorem arcs_same (h : Sim s r) : arcsR r 16 = arcsP s := by
  unfold arcsR arcsP waitsP
  rw [fm_fm]
  refine fm_congr fun t ht => ?_
  have hT : ∀ {n : Nat} {m : Mx}, s.ms[n]? = some m → whomL (r.row (2 * n)) (r.row (2 * n + 1)) (t : Int) = whomL (hM m) (m.queue.map (trW s.ms.length s.ls.length n)) (t : Int) := fun hm => by
    obtain ⟨a, b⟩ := h.rel.mrow hm
    rw [R8.row_of a, R8.row_of b]
  have hU : ∀ {n : Nat} {l : Lk}, s.ls[n]? = some l → whomL (r.row (2 * (r.M + n))) (r.row (2 * (r.M + n) + 1)) (t : Int) = whomL (hL l) (l.queue.map (trW s.ms.length s.ls.length (s.ms.length + n))) (t : Int) := fun hl => by
    obtain ⟨a, b⟩ := h.rel.lrow hl
    rw [h.rel.eM, R8.row_of a, R8.row_of b]
  have stands : ∀ {j : Nat} {q : List Wt} {x : Wt}, s.qs[j]? = some q → x ∈ q → x.task = (t : Int) → s.wt (t : Int) = some (ent s.ms.length s.ls.length j x) := fun {j q x} hj hx e => by
    have := (h.ws.qw.iq (ent s.ms.length s.ls.length j x)).1 ⟨j, q, x, hj, hx, rfl⟩
    rw [ent_task, e] at this
    exact this
  have noM : ∀ n, n < s.ms.length → (∀ x, s.wt (t : Int) ≠ some (ent s.ms.length s.ls.length n x)) → whomL (r.row (2 * n)) (r.row (2 * n + 1)) (t : Int) = [] := fun n hn hno => by
    obtain ⟨m, hm⟩ := get_ex (l := s.ms) hn
    rw [hT hm]
    exact whom_no fun x hx e => hno x (stands (qs_m hm) hx e)
  have noL : ∀ n, n < s.ls.length → (∀ x, s.wt (t : Int) ≠ some (ent s.ms.length s.ls.length (s.ms.length + n) x)) → whomL (r.row (2 * (r.M + n))) (r.row (2 * (r.M + n) + 1)) (t : Int) = [] := fun n hn hno => by
    obtain ⟨l, hl⟩ := get_ex (l := s.ls) hn
    rw [hU hl]
    exact whom_no fun x hx e => hno x (stands (qs_l hl) hx e)
  have e0 : (List.range 16).flatMap (arcI [] (t : Int)) = [] := fm_nil fun k _ => rfl
  have eto : toR r (t : Int) = (List.range s.ms.length).flatMap (fun n => whomL (r.row (2 * n)) (r.row (2 * n + 1)) (t : Int)) ++ (List.range s.ls.length).flatMap fun n => whomL (r.row (2 * (r.M + n))) (r.row (2 * (r.M + n) + 1)) (t : Int) := by
    unfold toR; rw [h.rel.eL]
    congr 2
    rw [h.rel.eM]
  cases hw : s.wt (t : Int) with
  | none =>
    have no : ∀ n x, s.wt (t : Int) ≠ some (ent s.ms.length s.ls.length n x) := fun n x hx => by rw [hw] at hx; cases hx
    rw [eto, fm_nil fun n hn => noM n hn (no n), fm_nil fun n hn => noL n hn (no _)]
    exact e0
  | some v =>
    obtain ⟨hkey, _, j, q, x, hj, hx, e, hc⟩ := h.valid hw
    have hjl := get_lt hj
    rw [qs_len] at hjl
    have hev := stands hj hx e
    have diff : ∀ n, n ≠ j → ∀ y, s.wt (t : Int) ≠ some (ent s.ms.length s.ls.length n y) := fun n hn y hy => by
      rw [hev] at hy
      exact hn (ent_inj (Option.some.inj hy)).symm
    have tasks : ∀ y ∈ q, 0 ≤ y.task ∧ y.task < 16 := fun y hy => h.ws.qw.tk _ (List.mem_of_getElem? hj) y hy
    have twt : ∀ z ∈ (q.takeWhile fun x => x.task != (t : Int)).map Wt.task, 0 ≤ z ∧ z < 16 := fun z hz => by
      obtain ⟨y, hy, rfl⟩ := List.mem_map.1 hz
      exact tasks y ((List.takeWhile_sublist _).subset hy)
    show _ = (aheadP s v).map fun z => (v.1, z)
    rw [hkey]
    unfold aheadP
    rw [hkey]
    rcases hc with ⟨h1, h2, h3⟩ | ⟨h1, h1', h2, h3⟩ | ⟨h1, h2, h3⟩
    · obtain ⟨m, hm⟩ := get_ex (l := s.ms) h1
      rw [qs_m hm] at hj; cases hj
      have eq : aheadQ s v = ([m.owner], m.queue) := by unfold aheadQ; rw [if_pos h2, h3, Int.toNat_natCast, hm]
      have ho : 0 ≤ m.owner := by
        rcases h.ws.own m (List.mem_of_getElem? hm) with ho | ⟨_, hq⟩
        · exact ho
        · rw [hq] at hx; simp at hx
      have hh := h.ws.ho m (List.mem_of_getElem? hm)
      have et : toR r (t : Int) = [m.owner] ++ (m.queue.takeWhile fun x => x.task != (t : Int)).map Wt.task := by
        rw [eto, fm_one h1 fun n hn hne => noM n hn (diff n hne), fm_nil fun n hn => noL n hn (diff _ (by omega)), hT hm, whom_yes hx e, List.append_nil, hM, if_neg (by omega)]
        rfl
      rw [eq, et]
      exact arc_core (fun z hz => by
        rcases List.mem_append.1 hz with hz | hz
        · simp at hz; omega
        · exact twt z hz) (t : Int)
    · obtain ⟨l, hl⟩ := get_ex (l := s.ls) (i := j - s.ms.length) (by omega)
      have hql := qs_l hl
      rw [show s.ms.length + (j - s.ms.length) = j by omega, hj] at hql
      cases hql
      have hk := kd_cases x.write
      rw [← h2] at hk
      have eq : aheadQ s v = (l.readers ++ (if 0 ≤ l.writer then [l.writer] else []), l.queue) := by unfold aheadQ; rw [if_neg (by omega), if_pos hk, h3, Int.toNat_natCast, hl]
      have hlm := List.mem_of_getElem? hl
      have eh : (hL l).map Prod.fst = l.readers ++ (if 0 ≤ l.writer then [l.writer] else []) := by
        unfold hL
        rw [List.map_append, List.map_map]
        congr 1
        · exact List.map_id _
        · split <;> rfl
      have et : toR r (t : Int) = l.readers ++ (if 0 ≤ l.writer then [l.writer] else []) ++ (l.queue.takeWhile fun x => x.task != (t : Int)).map Wt.task := by
        rw [eto, fm_nil fun n hn => noM n hn (diff n (by omega)), fm_one (j := j - s.ms.length) (by omega) fun n hn hne => noL n hn (diff _ (by omega)), hU hl, whom_yes hx e, eh]
        rfl
      rw [eq, et]
      refine arc_core (fun z hz => ?_) (t : Int)
      rcases List.mem_append.1 hz with hz | hz
      · rcases List.mem_append.1 hz with hz | hz
        · exact (h.ws.rd l hlm).2.2 z hz
        · have := h.ws.hw l hlm
          split at hz
          · simp at hz; omega
          · simp at hz
      · exact twt z hz
    · have eq : aheadQ s v = ([], []) := by unfold aheadQ; rw [if_neg (by omega), if_neg (by omega)]
      have et : toR r (t : Int) = [] := by
        rw [eto, fm_nil fun n hn => noM n hn (diff n (by omega)), fm_nil fun n hn => noL n hn (diff _ (by omega))]
        rfl
      rw [eq, et, e0]
      show [] = List.map _ (dq _ (([] : List Int).mergeSort _))
      rw [List.mergeSort_nil]
      rfl
/-! ## at the start -/
theorem sim_new (a b c d : Nat) : Sim (new8 a b c d) (new8R a b c d) := by
  have hq : ∀ q ∈ (new8 a b c d).qs, q = [] := fun q hq => by
    have hq : q ∈ (free a).map Mx.queue ++ ((List.replicate b (⟨[], -1, []⟩ : Lk)).map Lk.queue ++ List.replicate c []) := hq
    rcases List.mem_append.1 hq with h | h
    · obtain ⟨y, hy, rfl⟩ := List.mem_map.1 h
      rw [free] at hy
      rw [List.eq_of_mem_replicate hy]
    · rcases List.mem_append.1 h with h | h
      · obtain ⟨y, hy, rfl⟩ := List.mem_map.1 h
        rw [List.eq_of_mem_replicate hy]
      · exact List.eq_of_mem_replicate h
  have l1 : (new8 a b c d).ms.length = a := by simp [new8, free]
  have l2 : (new8 a b c d).ls.length = b := by simp [new8]
  have l3 : (new8 a b c d).cs.length = c := by simp [new8]
  have rows : ∀ j, j < 2 * (a + b) + c → (new8R a b c d).rows[j]? = some [] := fun j hj => by
    show (List.replicate _ _)[j]? = _
    rw [List.getElem?_replicate, if_pos hj]
  have em : ∀ m ∈ (new8 a b c d).ms, m = ⟨-1, []⟩ := fun m hm => List.eq_of_mem_replicate hm
  have el : ∀ l ∈ (new8 a b c d).ls, l = ⟨[], -1, []⟩ := fun l hl => List.eq_of_mem_replicate hl
  refine ⟨⟨l1.symm, l2.symm, l3.symm, rfl, by rw [l1, l2, l3]; simp [new8R], fun i m hm => ?_, fun i l hl => ?_, fun j q hj => ?_⟩, ⟨fun m hm => ?_, fun l hl => ?_, fun l hl => ?_, fun q hq x hx => ?_, fun m hm => ?_, fun l hl => ?_, ⟨fun q hq' x hx => ?_, fun t v hv => ?_, fun v => ⟨?_, fun hv => ?_⟩, fun q hq' => ?_⟩⟩⟩
  · have := get_lt hm
    rw [em m (List.mem_of_getElem? hm), rows _ (by omega)]; rfl
  · have := get_lt hl
    rw [el l (List.mem_of_getElem? hl), l1, rows _ (by omega)]; rfl
  · have := get_lt hj
    rw [qs_len] at this
    rw [hq q (List.mem_of_getElem? hj), l1, l2, rows _ (by unfold qrow; split <;> omega)]; rfl
  · rw [em m hm]; exact .inr ⟨rfl, rfl⟩
  · rw [el l hl]; exact .inl rfl
  · rw [el l hl]; exact ⟨List.nodup_nil, fun x hx => by simp at hx, fun t ht => by simp at ht⟩
  · have : q = [] := List.eq_of_mem_replicate hq
    rw [this] at hx; simp at hx
  · rw [em m hm]; show (-1 : Int) < 16; decide
  · rw [el l hl]; show (-1 : Int) < 16; decide
  · rw [hq q hq'] at hx; simp at hx
  · cases hv
  · rintro ⟨j, q, x, hj, hx, _⟩
    rw [hq q (List.mem_of_getElem? hj)] at hx; simp at hx
  · cases hv
  · rw [hq q hq']; exact List.nodup_nil
end
end Full
end Go.Proofs.Ytibpbbjlecohiaa
