import Derived.Test.YtdlbmmodlkmofaaGreatDoorPzN
set_option maxRecDepth 20000
namespace Go.Proofs.YtdlbmmodlkmofaaGreatDoor
open Go Go.Vc Go.RowKit
/-! # the text of a plan -/
def nW (n : Int) : ByteArray := ⟨(Lib.decDigits n.toNat).toArray⟩
theorem dec_len {u : Nat} (h : u < 1000000000000000000) : (Lib.decDigits u).length ≤ 18 := by
  rw [Lib.decDigits_length]
  rcases Nat.lt_or_ge 18 (Lib.nDigits u) with h1 | h1
  · exfalso
    have : ∀ (k u : Nat), k < Lib.nDigits u → 10 ^ k ≤ u ∨ k = 0 := fun k => by
      induction k with
      | zero => exact fun _ _ => .inr rfl
      | succ k ih =>
        intro u hk
        left
        by_cases h : u < 10
        · rw [Lib.nDigits_small h] at hk; omega
        · rw [Lib.nDigits_big h] at hk
          rcases ih (u / 10) (by omega) with h2 | h2
          · rw [Nat.pow_succ]; omega
          · subst h2; simp; omega
    rcases this 18 u h1 with h2 | h2 <;> omega
  · exact h1
theorem join_two (x y : List UInt8) (r : List (List UInt8)) : Lib.join (x :: y :: r) [32] = x ++ 32 :: Lib.join (y :: r) [32] := by
  rw [Lib.join_cons, Lib.join_cons]; simp [Lib.joinTail]
def Tb (w : World) : Prop := Lib.TabIs Tryz.prog w "internal/strconv.uint64pow10" .u64 Lib.pow10Tab
theorem Tb.chg {w w' : World} (h : Tb w) (k : Chg none_ w w') : Tb w' := by
  unfold Tb Lib.TabIs World.var? at *
  cases hg : Tryz.prog.globalNamed "internal/strconv.uint64pow10" with
  | none => rw [hg] at h; cases h
  | some g =>
    rw [hg] at h
    simp only [Option.bind_some] at h ⊢
    have hlt : g < w.heap.size := by
      rcases Nat.lt_or_ge g w.heap.size with h1 | h1
      · exact h1
      · rw [Array.getElem?_eq_none h1] at h; cases h
    rw [k.block g hlt (fun x => x)]; exact h
theorem itoa19 {w : World} (h : Tb w) {n : Int} (h0 : 0 ≤ n) (h1 : n < 1000000000000000000) : Calls Tryz.prog 19 #[.int .i64 n] w (Ret fun v w' => v = .string (nW n) ∧ Chg none_ w w') := by
  refine Calls.mono (Tryz.strconv_Itoa n (by omega) (by omega) w h) fun e w' ⟨h1, k, os, h2⟩ => ⟨_, h1, ?_, ?_⟩
  · have : ¬ n < 0 := by omega
    simp only [Lib.itoa, if_neg this, nW]
  · rw [h2]
    have c0 : Chg none_ w (w.drewN k) := ⟨rfl, by simp, rfl, by simp, fun k hk hn => by simp⟩
    refine ⟨c0.os, c0.tape, c0.output, ?_, fun i hi _ => ?_⟩
    · show w.heap.size ≤ (w.heap ++ os).size
      simp
    · show (w.heap ++ os)[i]? = _
      rw [Array.getElem?_append_left hi]
def wd (l : List ByteArray) (i : Int) : ByteArray := (l[i.toNat]?).getD (bs [])
def lnF (f : T3) : List ByteArray := [bs [102, 97, 117, 108, 116], wd wOp f.1, nW f.2.1, wd wFault f.2.2]
def lnC (c : Cr) : List ByteArray := [bs [99, 114, 97, 115, 104], nW c.step, wd wFate c.rest]
def lnT3 (t : T3) : List ByteArray := [bs [112, 97, 103, 101], nW t.1, wd wFate t.2.1]
def lnT (t : T3) : List ByteArray := lnT3 t ++ (if t.2.1 = 3 then [nW t.2.2] else [])
def txF (fs : List T3) : List UInt8 := fs.flatMap fun f => lineOf (lnF f)
def txT (ts : List T3) : List UInt8 := ts.flatMap fun t => lineOf (lnT t)
def txC (cs : List Cr) : List UInt8 := cs.flatMap fun c => lineOf (lnC c) ++ txT c.fates
def planT (fs : List T3) (cs : List Cr) : List UInt8 := txF fs ++ txC cs
theorem wd_get {l : List ByteArray} {i : Int} (h : i.toNat < l.length) : l[i.toNat]? = some (wd l i) := by
  obtain ⟨x, hx⟩ := get_ex h
  rw [wd, hx]; rfl
/-! ## plans that pass -/
structure Vf (f : T3) : Prop where
  op : 1 ≤ f.1 ∧ f.1 ≤ 4
  nth : 1 ≤ f.2.1 ∧ f.2.1 ≤ 2147483647
  kind : f.2.2 = 1 ∨ f.2.2 = 2
structure Vt (t : T3) : Prop where
  page : 0 ≤ t.1 ∧ t.1 ≤ 2147483647
  kind : t.2.1 = 1 ∨ t.2.1 = 2 ∨ t.2.1 = 3
  at' : 0 ≤ t.2.2 ∧ t.2.2 ≤ 2147483647
  z : t.2.1 ≠ 3 → t.2.2 = 0
structure Vk (c : Cr) : Prop where
  step : 0 ≤ c.step ∧ c.step ≤ 2147483647
  rest : c.rest = 1 ∨ c.rest = 2
  len : c.fates.length ≤ 64
  fates : ∀ t ∈ c.fates, Vt t
structure Vp (fs : List T3) (cs : List Cr) : Prop where
  fl : fs.length ≤ 64
  f : ∀ f ∈ fs, Vf f
  cl : cs.length ≤ 16
  c : ∀ c ∈ cs, Vk c
theorem vp_of {g : Gm} {fs : List T3} {cs : List Cr} (h : chk g fs cs = 0) : Vp fs cs := by
  unfold chk at h
  by_cases hg : gC g ≠ 0
  · rw [if_pos hg] at h; exact absurd h hg
  rw [if_neg hg] at h
  have hgB : gB g = true := by
    cases hb : gB g with
    | true => rfl
    | false => exact absurd (gC_bad hb) (by intro h20; rw [h20] at hg; exact hg (by decide))
  by_cases hf : fsR fs = false
  · rw [if_pos hf] at h; cases h
  rw [if_neg hf] at h
  by_cases hc : csR g cs = false
  · rw [if_pos hc] at h; cases h
  simp only [Bool.not_eq_false] at hf hc
  simp only [fsR, Bool.and_eq_true, decide_eq_true_eq, List.all_eq_true] at hf
  simp only [csR, Bool.and_eq_true, decide_eq_true_eq, List.all_eq_true] at hc
  have hgb := hgB
  simp only [gB, Bool.and_eq_true, decide_eq_true_eq] at hgb
  refine ⟨hf.1.1, fun f hm => ?_, hc.1.1, fun c hm => ?_⟩
  · have := hf.1.2 f hm
    simp only [fR, Bool.and_eq_true, Bool.or_eq_true, decide_eq_true_eq, beq_iff_eq] at this
    exact ⟨⟨this.1.1.1.1, this.1.1.1.2⟩, ⟨this.1.1.2, this.1.2⟩, this.2⟩
  · have := hc.1.2 c hm
    simp only [cR, fatesR, Bool.and_eq_true, Bool.or_eq_true, decide_eq_true_eq, beq_iff_eq, List.all_eq_true] at this
    refine ⟨⟨this.1.1.1, this.1.1.2⟩, this.1.2, this.2.1.1, fun t ht => ?_⟩
    have h3 := this.2.1.2 t ht
    have hn : g.n ≤ 16384 := by
      have h4 : 0 ≤ g.pages * g.regions := Int.mul_nonneg (by omega) (by omega)
      have h5 : g.pages * g.regions ≤ 64 * 256 := Int.mul_le_mul (by omega) (by omega) (by omega) (by omega)
      rw [Gm.n, wrapS (by omega) (by omega)]; omega
    have hp : g.page ≤ 4096 := by
      have := hgb.1.1.1.1.1.1.1.1
      unfold pw at this
      obtain ⟨k, _, hk⟩ := List.any_eq_true.1 this
      simp only [Bool.and_eq_true, decide_eq_true_eq] at hk
      exact hk.2
    simp only [tR, Bool.and_eq_true, decide_eq_true_eq] at h3
    have h6 := h3.2
    by_cases hk : t.2.1 = 3
    · rw [if_pos (by simpa using hk)] at h6
      simp only [Bool.and_eq_true, decide_eq_true_eq] at h6
      exact ⟨⟨h3.1.1, by omega⟩, .inr (.inr hk), ⟨by omega, by omega⟩, fun h => absurd hk h⟩
    · rw [if_neg (by simpa using hk)] at h6
      simp only [Bool.and_eq_true, Bool.or_eq_true, beq_iff_eq] at h6
      refine ⟨⟨h3.1.1, by omega⟩, ?_, ⟨by omega, by omega⟩, fun _ => h6.1⟩
      rcases h6.2 with h | h
      · exact .inl h
      · exact .inr (.inl h)
/-! ## lengths -/
theorem nW_len {n : Int} (h : n ≤ 2147483647) : (nW n).data.toList.length ≤ 18 := by
  have := dec_len (u := n.toNat) (by omega)
  simpa [nW] using this
theorem join1 (x : List UInt8) : Lib.join [x] [32] = x := by rw [Lib.join]; simp
theorem wd_len {l : List ByteArray} (h : ∀ x ∈ l, x.data.toList.length ≤ 8) (i : Int) : (wd l i).data.toList.length ≤ 8 := by
  unfold wd
  cases hx : l[i.toNat]? with
  | none => exact Nat.zero_le _
  | some x => exact h x (List.mem_of_getElem? hx)
theorem opLen : ∀ x ∈ wOp, x.data.toList.length ≤ 8 := by decide
theorem faultLen : ∀ x ∈ wFault, x.data.toList.length ≤ 8 := by decide
theorem fateLen : ∀ x ∈ wFate, x.data.toList.length ≤ 8 := by decide
theorem lnF_len {f : T3} (h : Vf f) : (lineOf (lnF f)).length ≤ 100 := by
  have h1 := nW_len h.nth.2
  have h2 := wd_len opLen f.1
  have h3 := wd_len faultLen f.2.2
  simp only [lineOf, lnF, List.map_cons, List.map_nil, join_two, join1, List.length_append, List.length_cons, List.length_nil]
  omega
theorem lnC_len {c : Cr} (h : Vk c) : (lineOf (lnC c)).length ≤ 100 := by
  have h1 := nW_len h.step.2
  have h2 := wd_len fateLen c.rest
  simp only [lineOf, lnC, List.map_cons, List.map_nil, join_two, join1, List.length_append, List.length_cons, List.length_nil]
  omega
theorem lnT_len {t : T3} (h : Vt t) : (lineOf (lnT t)).length ≤ 100 := by
  have h1 := nW_len h.page.2
  have h2 := wd_len fateLen t.2.1
  have h3 := nW_len h.at'.2
  unfold lnT lnT3
  split
  · simp only [lineOf, List.cons_append, List.nil_append, List.map_cons, List.map_nil, join_two, join1, List.length_append, List.length_cons, List.length_nil]
    omega
  · simp only [lineOf, List.append_nil, List.map_cons, List.map_nil, join_two, join1, List.length_append, List.length_cons, List.length_nil]
    omega
theorem txF_len : ∀ {fs : List T3}, (∀ f ∈ fs, Vf f) → (txF fs).length ≤ 100 * fs.length
  | [], _ => by simp [txF]
  | f :: fs, h => by
    have h1 := lnF_len (h f (by simp))
    have h2 := txF_len (fs := fs) fun x hx => h x (by simp [hx])
    simp only [txF, List.flatMap_cons, List.length_append, List.length_cons] at h2 ⊢
    omega
theorem txT_len : ∀ {ts : List T3}, (∀ t ∈ ts, Vt t) → (txT ts).length ≤ 100 * ts.length
  | [], _ => by simp [txT]
  | f :: fs, h => by
    have h1 := lnT_len (h f (by simp))
    have h2 := txT_len (ts := fs) fun x hx => h x (by simp [hx])
    simp only [txT, List.flatMap_cons, List.length_append, List.length_cons] at h2 ⊢
    omega
theorem txC_len : ∀ {cs : List Cr}, (∀ c ∈ cs, Vk c) → (txC cs).length ≤ 6500 * cs.length
  | [], _ => by simp [txC]
  | c :: cs, h => by
    have h0 := h c (by simp)
    have h1 := lnC_len h0
    have h3 := txT_len h0.fates
    have h4 := h0.len
    have h2 := txC_len (cs := cs) fun x hx => h x (by simp [hx])
    simp only [txC, List.flatMap_cons, List.length_append, List.length_cons] at h2 ⊢
    omega
end Go.Proofs.YtdlbmmodlkmofaaGreatDoor
