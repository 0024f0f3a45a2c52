import Derived.Test.YtnloecggngmcjaaEvF
import Derived.Test.YtnloecggngmcjaaAp
set_option maxRecDepth 20000
namespace Go.Proofs.Ytnloecggngmcjaa
open Go Go.Vc Go.RowKit Go.Vc.Ring
theorem wrap1 {x : Int} (h0 : 0 ≤ x) (h : x < 9223372036854775807) : IntKind.wrap .i64 (x + 1) = x + 1 := by
  simp [IntKind.wrap, IntKind.bits, IntKind.signed]; omega
theorem cell_some {w : World} {p : Addr} {v : Value} (h : w.cell? p = some v) : p.block < w.heap.size := by
  rcases Nat.lt_or_ge p.block w.heap.size with h1 | h1
  · exact h1
  · simp [World.cell?, Array.getElem?_eq_none h1] at h
theorem Chg.cellS {S : Nat → Prop} {w w' : World} (c : Chg S w w') {p : Addr} {v : Value} (h : w.cell? p = some v) (hn : ¬ S p.block) : w'.cell? p = some v := (c.cell (cell_some h) hn).trans h
abbrev iv (x : Int) : Value := .int .i64 x
/-- a slice of ints reads as this list -/
def Ints (w : World) (q : Option Addr) (n : Nat) (xs : List Int) : Prop := xs.length = n ∧ ∀ i x, xs[i]? = some x → ∃ a, q = some a ∧ w.cell? (a.add (i * 1)) = some (iv x)
theorem Ints.own {w : World} {base n l c : Nat} {e : TypeId} {q : Option Addr} {xs : List Int} (h : w.ownsRow base e 1 (.slice q l c) n (xs.map iv)) : Ints w q n xs :=
  ⟨by have := h.1; simpa using this, fun i x hx => by
    obtain ⟨g, rfl, hc⟩ := own_cell h (i := i) (x := iv x) (by simp [hx])
    exact ⟨_, rfl, hc⟩⟩
theorem Ints.chg {w w' : World} {q : Option Addr} {n : Nat} {xs : List Int} (h : Ints w q n xs) (c : Chg none_ w w') : Ints w' q n xs :=
  ⟨h.1, fun i x hx => by
    obtain ⟨a, rfl, hc⟩ := h.2 i x hx
    exact ⟨a, rfl, Chg.cellS c hc (fun x => x)⟩⟩
theorem same18 {w : World} {q0 q1 : Option Addr} {n0 n1 c0 c1 : Nat} {xs ys : List Int} (h0 : Ints w q0 n0 xs) (h1 : Ints w q1 n1 ys) (hn : n0 < 9223372036854775807) :
    Calls Try.prog 18 #[.slice q0 n0 c0, .slice q1 n1 c1] w (Ret fun u w' => u = .bool (decide (xs = ys)) ∧ Chg none_ w w') := by
  refine f18.calls _ _ _ _ _ _ ?_
  unfold f18.wp
  refine bc (fun hne => ?_) (fun heq => ?_)
  · have : xs ≠ ys := fun e => by
      have e1 := h0.1; have e2 := h1.1
      subst e
      simp [← e1, ← e2] at hne
    exact ⟨by simp [this], Chg.refl _ _⟩
  have hnn : n0 = n1 := by simp at heq; omega
  subst hnn
  refine ⟨fun x w1 => ∃ k : Nat, x = k ∧ k ≤ n0 ∧ xs.take k = ys.take k ∧ Chg none_ w w1, fun x _ => n0 - x.toNat, ⟨0, rfl, Nat.zero_le _, rfl, Chg.refl _ _⟩, ?_⟩
  rintro x w1 ⟨k, rfl, hk, ht, c⟩
  refine bc (fun hlt => ?_) (fun hlt => ?_)
  · have hk' : k < n0 := by simpa using hlt
    have c' := c.drew
    have e0 : xs[k]? = some (xs[k]'(by rw [h0.1]; exact hk')) := List.getElem?_eq_getElem _
    have e1 : ys[k]? = some (ys[k]'(by rw [h1.1]; exact hk')) := List.getElem?_eq_getElem _
    obtain ⟨a0, rfl, hc0⟩ := (h0.chg c').2 k _ e0
    obtain ⟨a1, rfl, hc1⟩ := (h1.chg c').2 k _ e1
    simp only [Int.toNat_natCast]
    refine onPtr_mk ⟨by omega, by omega, _, hc0, onPtr_mk ⟨by omega, by omega, _, hc1, bc (fun hd => ?_) (fun hd => ?_)⟩⟩
    · have : xs ≠ ys := fun e => by subst e; simp at hd
      exact ⟨by simp [this], c'⟩
    · have hd' : xs[k]'(by rw [h0.1]; exact hk') = ys[k]'(by rw [h1.1]; exact hk') := by simpa using hd
      rw [wrap1 (by omega) (by omega)]
      refine ⟨⟨k + 1, by omega, hk', ?_, c'⟩, ?_⟩
      · rw [List.take_add_one, List.take_add_one, ht, e0, e1, hd']
      · simp; omega
  · have hk' : k = n0 := by have : ¬ k < n0 := by simpa using hlt
                            omega
    subst hk'
    rw [List.take_of_length_le (by rw [h0.1]; omega), List.take_of_length_le (by rw [h1.1]; omega)] at ht
    exact ⟨by simp [ht], c⟩
section
variable {v : Vi} {w : World}
abbrev Vi.regs (v : Vi) : List Int := v.line.map (·.1)
theorem Inv.next (h : Inv v w) {l1 l2 : List Nat} {b : Nat} (e : v.bs = l1 ++ b :: l2) : v.g.nx b = l2.headD v.r := by
  have hr := h.ring
  rw [e] at hr
  obtain ⟨_, l2', _, e2⟩ := hr.parts
  cases l2 with
  | nil => simp at e2; exact e2.1.symm
  | cons c l => simp at e2; exact e2.1.symm
theorem nodup_le : ∀ {l m : List Nat}, l.Nodup → (∀ x ∈ l, x ∈ m) → l.length ≤ m.length
  | [], _, _, _ => Nat.zero_le _
  | a :: l, m, hn, hs => by
    have ha := hs a (by simp)
    have hn' := List.nodup_cons.1 hn
    have := nodup_le (m := m.erase a) hn'.2 (fun x hx => (List.mem_erase_of_ne (fun (e : x = a) => hn'.1 (e ▸ hx))).2 (hs x (by simp [hx])))
    rw [List.length_erase_of_mem ha] at this
    have := List.length_pos_of_mem ha
    simp; omega
theorem Inv.few (h : Inv v w) : v.bs.length ≤ v.n := by
  have h1 : v.bs.length ≤ (v.arr.filterMap id).length := nodup_le (List.nodup_cons.1 h.ring.nodup).2 fun b hb => by
    obtain ⟨i, hi, _⟩ := h.tabI b hb
    exact List.mem_filterMap.2 ⟨_, List.mem_of_getElem? hi, rfl⟩
  have h2 := List.length_filterMap_le id v.arr
  have h3 := h.len
  omega
theorem line15 (h : Inv v w) : Calls Try.prog 15 #[.pointer (some (ad v.B))] w (Ret fun u w' => (∃ q c, u = .slice q v.bs.length c) ∧ w'.ownsRow w.heap.size 3 1 u v.bs.length (v.regs.map iv) ∧ Chg none_ w w') := by
  have hs := h.few
  have hs2 := h.small
  refine f15.calls _ ?_
  unfold f15.wp
  refine Calls.use (made27 h.hv) ?_
  rintro _ _ ⟨rfl, rfl⟩
  refine ⟨_, rfl, bcF rfl (onPtr_mk ⟨_, (h.hv.cell0 2).trans rfl, onPtr_mk ⟨_, h.hn.nx (x := v.r) (by simp), ?_⟩⟩)⟩
  rw [h.ring.nxr]
  refine ⟨fun q l c x w2 => ∃ l1 l2, v.bs = l1 ++ l2 ∧ x = some (ad (l2.headD v.r)) ∧ l = l1.length ∧ w2.ownsRow w.heap.size 3 1 (.slice q l c) l1.length (l1.map fun b => iv (v.g.rg b)) ∧ Chg none_ w w2,
    fun _ l _ _ _ => v.bs.length - l, ⟨[], v.bs, rfl, rfl, rfl, World.ownsRow_nil _ _ _ _, Chg.refl _ _⟩, ?_⟩
  rintro q l c x w2 ⟨l1, l2, e, rfl, rfl, ho, cg⟩
  have hi := h.chg cg (fun _ _ hf => hf)
  have hd : l2.headD v.r ∈ v.r :: v.bs := by rw [e]; cases l2 <;> simp
  refine onPtr_mk ⟨_, (hi.hv.cell0 2).trans rfl, ptrOk_blk (hi.hn _ hd) (hi.hn v.r (by simp)) (by simp [G.nd, ndA]) (by simp [G.nd, ndA]), bc (fun hne => ?_) (fun heq => ?_)⟩
  · cases l2 with
    | nil => simp at hne
    | cons b l2 =>
      have hb : b ∈ v.r :: v.bs := hd
      refine onPtr_mk ⟨_, hi.hn.rg hb, fun w3 e3 => ?_⟩
      have c3 := cg.new' e3
      have ho3 := own_chg ho ((Chg.refl none_ w2).new' e3) (fun _ _ hf => hf)
      have hlen : l1.length < 256 := by
        have := congrArg List.length e
        simp at this; omega
      obtain ⟨q', c', w4, hr, ho4, c4, hat⟩ := append1 (P := Try.prog) (t := 36) (ty := 36) (e := 3) (z := .int .i64 0) (bytes := 8) Try.underlying36 (by kernel_rfl) rfl ho3 (new_blk e3) rfl (by simp only [maxLen]; omega) (by omega) c3.size
      have cw : Chg none_ w w4 := c3.trans' c4 (fun k hk => .inr (own_lt ho3 hk.symm).2)
      refine ⟨q', _, c', w4, hr, ?_⟩
      have hi4 := h.chg cw (fun _ _ hf => hf)
      refine onPtr_mk ⟨_, hi4.hn.nx hb, ⟨l1 ++ [b], l2, by simp [e], by rw [show (b :: l2).headD v.r = b from rfl, h.next e], by simp, by simpa using ho4, cw⟩, ?_⟩
      have := congrArg List.length e
      simp at this
      show v.bs.length - (l1.length + 1) < v.bs.length - l1.length
      omega
  · cases l2 with
    | nil =>
      have e' : v.bs = l1 := by simpa using e
      rw [e']
      exact ⟨⟨_, _, rfl⟩, by simpa [Vi.line, e', Function.comp_def] using ho, cg⟩
    | cons b l2 =>
      exfalso
      have hbr : b = v.r := by simpa using heq
      have := (List.nodup_cons.1 h.ring.nodup).1
      exact this (by rw [e, hbr]; simp)
end
end Go.Proofs.Ytnloecggngmcjaa
