import Derived.Test.YtglidaifbpjpgaaDoorStK
set_option maxRecDepth 20000
namespace Go.Proofs.YtglidaifbpjpgaaDoor
open Go Go.Vc Go.RowKit
theorem zip_set {xs ys : List Int} {i : Nat} {x v : Int} (hx : xs[i]? = some x) (hl : xs.length = ys.length) : xs.zipWith (· + ·) (ys.set i v) = (xs.zipWith (· + ·) ys).set i (x + v) := by
  apply List.ext_getElem?
  intro j
  by_cases e : j = i
  · subst e
    have := get_lt hx
    rw [List.getElem?_zipWith, hx, List.getElem?_set_self (by omega), List.getElem?_set_self (by simp; omega)]
  · rw [List.getElem?_zipWith, List.getElem?_set_ne (Ne.symm e), List.getElem?_set_ne (Ne.symm e), List.getElem?_zipWith]
theorem zip_add {bs xs ys : List Int} (n : Int) (h1 : xs.length = bs.length + 1) (h2 : ys.length = bs.length + 1) : addCs bs (xs.zipWith (· + ·) ys) n = xs.zipWith (· + ·) (addCs bs ys n) := by
  have hi : bs.countP (· < n) < bs.length + 1 := Nat.lt_succ_of_le List.countP_le_length
  obtain ⟨x, hx⟩ := get_ex (l := xs) (i := bs.countP (· < n)) (by omega)
  obtain ⟨y, hy⟩ := get_ex (l := ys) (i := bs.countP (· < n)) (by omega)
  unfold addCs
  rw [zip_set hx (by omega), List.getElem?_zipWith, hx, hy]
  simp [Int.add_assoc]
theorem zip_zero : ∀ (xs : List Int), xs.zipWith (· + ·) (List.replicate xs.length 0) = xs
  | [] => rfl
  | x :: xs => by simp [List.replicate_succ, zip_zero xs]
theorem add_own (h : Hs) (n : Int) : (h.add n).own = h.own := by unfold Hs.add; split <;> rfl
theorem add_bs (h : Hs) (n : Int) : (h.add n).bs = h.bs := by unfold Hs.add; split <;> rfl
theorem merge_own (h o : Hs) : (h.merge o).own = h.own := by unfold Hs.merge; split <;> rfl
theorem merge_b (h o : Hs) : (h.merge o).b = h.b := by unfold Hs.merge; split <;> rfl
/-! ## quantiles rise -/
theorem qL_mem : ∀ (bs cs : List Int) (acc k o tot : Int), (qL bs cs acc k o tot).2 = 0 → (qL bs cs acc k o tot).1 ∈ bs
  | [], _, acc, k, o, tot, h => by simp [qL] at h
  | b :: bs, [], acc, k, o, tot, h => by simp [qL] at h
  | b :: bs, c :: cs, acc, k, o, tot, h => by
    rw [qL] at h ⊢
    split at h
    · rename_i hc; rw [if_pos hc]; simp
    · rename_i hc; rw [if_neg hc]; exact List.mem_cons_of_mem _ (qL_mem bs cs _ k o tot h)
theorem qL_mono : ∀ (bs cs : List Int) (acc k k' o tot : Int), bs.Pairwise (· < ·) → 0 ≤ tot → k ≤ k' → (qL bs cs acc k' o tot).2 = 0 → (qL bs cs acc k o tot).2 = 0 ∧ (qL bs cs acc k o tot).1 ≤ (qL bs cs acc k' o tot).1
  | [], _, acc, k, k', o, tot, _, _, _, h => by simp [qL] at h
  | b :: bs, [], acc, k, k', o, tot, _, _, _, h => by simp [qL] at h
  | b :: bs, c :: cs, acc, k, k', o, tot, hp, ht, hk, h => by
    have hm : k * tot ≤ k' * tot := Int.mul_le_mul_of_nonneg_right hk ht
    rw [List.pairwise_cons] at hp
    rw [qL] at h
    rw [qL, qL]
    by_cases h1 : (acc + c) * o ≥ k' * tot
    · rw [if_pos h1, if_pos (by omega)]; exact ⟨rfl, Int.le_refl _⟩
    · rw [if_neg h1] at h ⊢
      by_cases h2 : (acc + c) * o ≥ k * tot
      · rw [if_pos h2]
        exact ⟨rfl, Int.le_of_lt (hp.1 _ (qL_mem bs cs _ k' o tot h))⟩
      · rw [if_neg h2]
        exact qL_mono bs cs (acc + c) k k' o tot hp.2 ht hk h
theorem quant_mono {bs cs : List Int} {tot k k' o : Int} (hp : bs.Pairwise (· < ·)) (ht : 0 ≤ tot) (h0 : 0 ≤ k) (hk : k ≤ k') (h : (quant bs cs tot k' o).2 = 0) : (quant bs cs tot k o).2 = 0 ∧ (quant bs cs tot k o).1 ≤ (quant bs cs tot k' o).1 := by
  unfold quant at h ⊢
  split at h
  · simp at h
  · rename_i hb
    rw [if_neg hb]
    have hb' : badQ k o = false := by
      simp [badQ] at hb ⊢
      omega
    rw [hb']
    simp only [Bool.false_eq_true, if_false]
    split at h
    · simp at h
    · rename_i h3
      rw [if_neg h3, if_neg h3]
      exact qL_mono bs cs 0 k k' o tot hp ht hk h
theorem quant_mem {bs cs : List Int} {tot k o : Int} (h : (quant bs cs tot k o).2 = 0) : (quant bs cs tot k o).1 ∈ bs := by
  unfold quant at h ⊢
  split at h
  · simp at h
  · rename_i hb
    rw [if_neg hb]
    split at h
    · simp at h
    · rename_i h3
      rw [if_neg h3]
      exact qL_mem bs cs 0 k o tot h
/-! ## three of them -/
structure Tri (W w : World) (X Y Z : Hs) : Prop where
  x : HI w W.heap.size X
  y : HI w W.heap.size Y
  z : HI w W.heap.size Z
  xy : ∀ k, X.own k → ¬ Y.own k
  xz : ∀ k, X.own k → ¬ Z.own k
  yz : ∀ k, Y.own k → ¬ Z.own k
  chg : Chg none_ W w
section
variable {W w w' : World} {X Y Z S : Hs}
theorem Tri.setX (T : Tri W w X Y Z) (h : HI w' W.heap.size S) (e : S.own = X.own) (c : Chg X.own w w') : Tri W w' S Y Z :=
  ⟨h, T.y.chg c (fun k h1 h2 => T.xy k h2 h1), T.z.chg c (fun k h1 h2 => T.xz k h2 h1), by rw [e]; exact T.xy, by rw [e]; exact T.xz, T.yz, T.chg.up c (fun k hk => (T.x.ownLt hk).2)⟩
theorem Tri.setY (T : Tri W w X Y Z) (h : HI w' W.heap.size S) (e : S.own = Y.own) (c : Chg Y.own w w') : Tri W w' X S Z :=
  ⟨T.x.chg c (fun k h1 h2 => T.xy k h1 h2), h, T.z.chg c (fun k h1 h2 => T.yz k h2 h1), by rw [e]; exact T.xy, T.xz, by rw [e]; exact T.yz, T.chg.up c (fun k hk => (T.y.ownLt hk).2)⟩
theorem Tri.setZ (T : Tri W w X Y Z) (h : HI w' W.heap.size S) (e : S.own = Z.own) (c : Chg Z.own w w') : Tri W w' X Y S :=
  ⟨T.x.chg c (fun k h1 h2 => T.xz k h1 h2), T.y.chg c (fun k h1 h2 => T.yz k h1 h2), h, T.xy, by rw [e]; exact T.xz, by rw [e]; exact T.yz, T.chg.up c (fun k hk => (T.z.ownLt hk).2)⟩
theorem Tri.next (T : Tri W w X Y Z) (c : Chg none_ w w') : Tri W w' X Y Z :=
  ⟨T.x.chgN c, T.y.chgN c, T.z.chgN c, T.xy, T.xz, T.yz, T.chg.trans c⟩
end
theorem merged5 {w : World} {q qa qb : Option Addr} {l c la ca lb cb : Nat} {xs us vs : List Int} (h : RE En.int w q l xs) (hl : l ≤ 9223372036854775807) (hlc : q = none → l = 0) (ha : RE En.int w qa la us) (hb : RE En.int w qb lb vs) :
    Calls Tryd.prog 5 #[.slice q l c, .slice qa la ca, .slice qb lb cb] w (Ret fun v w' => v = .bool true ∧ Chg none_ w w') := by
  refine f5.calls _ _ _ _ _ _ _ _ _ ?_
  unfold f5.wp
  refine Calls.use (awake12 w) ?_
  rintro _ w1 ⟨rfl, k1⟩
  refine ⟨_, rfl, bcF rfl (Calls.use (new18 (h.chg k1) hl hlc) ?_)⟩
  rintro _ w2 ⟨k2, hX⟩
  have k02 := k1.trans k2
  have hX' : ∃ p1 n1, ‹Value› = .tuple #[.pointer p1, .int .i64 n1] := by
    rcases hX with ⟨_, rfl⟩ | ⟨_, s, _, _, _, _, _, rfl⟩ <;> exact ⟨_, _, rfl⟩
  rcases hX with ⟨no, rfl⟩ | ⟨ok, X, HX, hxb, hxc, hxt, hxs, rfl⟩
  · refine ⟨_, _, rfl, Calls.use (new18 (h.chg k02) hl hlc) ?_⟩
    rintro _ w3 ⟨k3, ⟨_, rfl⟩ | ⟨ok, _⟩⟩
    rotate_left
    · exact absurd ok no
    have k03 := k02.trans k3
    refine ⟨_, _, rfl, Calls.use (new18 (h.chg k03) hl hlc) ?_⟩
    rintro _ w4 ⟨k4, ⟨_, rfl⟩ | ⟨ok, _⟩⟩
    rotate_left
    · exact absurd ok no
    have k04 := k03.trans k4
    refine ⟨_, _, rfl, fun b w' => b = true ∧ Chg none_ w w', ?_, bcT (by decide) ⟨rfl, k04⟩⟩
    rintro _ w5 ⟨rfl, k5⟩
    refine bcT rfl (Calls.use (refNew19 (h.chg k5) hl) ?_)
    rintro _ w6 ⟨k6, ⟨_, rfl⟩ | ⟨ok, _⟩⟩
    rotate_left
    · exact absurd ok no
    exact ⟨_, _, rfl, bcT (by decide) (bcT (by decide) (bcT (by decide) ⟨rfl, k5.trans k6⟩))⟩
  clear hX'
  refine ⟨_, _, rfl, Calls.use (new18 (h.chg k02) hl hlc) ?_⟩
  rintro _ w3 ⟨k3, ⟨no, _⟩ | ⟨_, Y, HY, hyb, hyc, hyt, hys, rfl⟩⟩
  · exact absurd ok no
  have k03 := k02.trans k3
  refine ⟨_, _, rfl, Calls.use (new18 (h.chg k03) hl hlc) ?_⟩
  rintro _ w4 ⟨k4, ⟨no, _⟩ | ⟨_, Z, HZ, hzb, hzc, hzt, hzs, rfl⟩⟩
  · exact absurd ok no
  have k04 := k03.trans k4
  have T4 : Tri w w4 X Y Z := ⟨((HX.lower k1.size).chgN k3).chgN k4, (HY.lower k02.size).chgN k4, HZ.lower k03.size, fun k h1 h2 => by have := (HX.ownLt h1).1; have := (HY.ownLt h2).2; omega,
    fun k h1 h2 => by have := (HX.ownLt h1).1; have := (HZ.ownLt h2).2; have := k3.size; omega, fun k h1 h2 => by have := (HY.ownLt h1).1; have := (HZ.ownLt h2).2; omega, k04⟩
  refine ⟨_, _, rfl, fun b w' => b = false ∧ w4 = w', ?_, bcF (by decide) (bcF (by decide) (bcF (by decide) ⟨ptrOk_none _ _, bcF (by simp) ⟨ptrOk_none _ _, bcF (by simp) ⟨ptrOk_none _ _, by simp, rfl⟩⟩⟩))⟩
  rintro _ _ ⟨rfl, rfl⟩
  refine bcF rfl (bc (fun _ => ⟨rfl, k04⟩) (fun hla => bc (fun _ => ⟨rfl, k04⟩) (fun hlb => ?_)))
  have hla : la ≤ 1048576 := by simp at hla; omega
  have hlb : lb ≤ 1048576 := by simp at hlb; omega
  clear HX HY HZ k1 k2 k02 k3 k03 k4 k04
  generalize hbx : X.b = bx
  generalize hby : Y.b = yb
  generalize hbz : Z.b = bz
  refine ⟨fun x w' => ∃ (i : Nat) (X Z : Hs), x = i ∧ i ≤ la ∧ Tri w w' X Y Z ∧ X.b = bx ∧ Z.b = bz ∧ X.bs = xs ∧ Z.bs = xs ∧ X.cs = Z.cs ∧ X.tot = Z.tot ∧ X.sum = Z.sum ∧ X.tot ≤ i, fun x _ => la - x.toNat,
    ⟨0, X, Z, rfl, Nat.zero_le _, T4, hbx, hbz, hxb, hzb, by rw [hxc, hzc], by rw [hxt, hzt], by rw [hxs, hzs], by omega⟩, ?_⟩
  clear T4 hbx hbz hxb hzb hxc hzc hxt hzt hxs hzs
  clear X Z
  rintro x w5 ⟨i, X, Z, rfl, hi, T, hbx, hbz, exb, ezb, ec, et, es, hti⟩
  refine bc (fun hlt => ?_) (fun hge => ?_)
  · have hi' : i < la := by simpa using hlt
    obtain ⟨a, n, rfl, hn, hr⟩ := (ha.chg T.chg).ex hi'
    rw [wrapS (x := (i : Int) + 1) (by omega) (by omega)]
    refine onPtr_mk ⟨by omega, by omega, n, reads_one' hr, ?_⟩
    have a1 := add20 T.x n
    rw [hbx] at a1
    refine Calls.use a1 ?_
    rintro _ w6 ⟨rfl, H6, d6⟩
    have T6 := T.setX H6 (add_own _ _) d6
    have a2 := add20 T6.z n
    rw [hbz] at a2
    refine ⟨_, rfl, Calls.use a2 ?_⟩
    rintro _ w7 ⟨rfl, H7, d7⟩
    have T7 := T6.setZ H7 (add_own _ _) d7
    have hcan : X.can n = Z.can n := by simp [Hs.can, et]
    refine ⟨_, rfl, bcF (by rw [hcan]; simp) ⟨⟨i + 1, _, _, by omega, hi', T7, by rw [add_b, hbx], by rw [add_b, hbz], by rw [add_bs, exb], by rw [add_bs, ezb], ?_, ?_, ?_, ?_⟩, meas hi'⟩⟩
    · unfold Hs.add; rw [hcan]; split
      · simp only [exb, ezb, ec]
      · exact ec
    · unfold Hs.add; rw [hcan]; split
      · simp only [et]
      · exact et
    · unfold Hs.add; rw [hcan]; split
      · simp only [es]
      · exact es
    · unfold Hs.add; split
      · simp only []; omega
      · omega
  have hX1 : X.tot ≤ 1048576 := by omega
  clear hi hge
  refine ⟨fun x w' => ∃ (j : Nat) (Y Z : Hs), x = j ∧ j ≤ lb ∧ Tri w w' X Y Z ∧ Y.b = yb ∧ Z.b = bz ∧ Y.bs = xs ∧ Z.bs = xs ∧ Z.cs = X.cs.zipWith (· + ·) Y.cs ∧ Z.tot = X.tot + Y.tot ∧ Z.sum = X.sum + Y.sum ∧ Y.tot ≤ j, fun x _ => lb - x.toNat,
    ⟨0, Y, Z, rfl, Nat.zero_le _, T, hby, hbz, hyb, ezb, ?_, by rw [hyt, et]; omega, by rw [hys, es]; omega, by omega⟩, ?_⟩
  · have hlx : X.cs.length = l + 1 := by rw [T.x.good.len, exb, h.len]
    rw [hyc, ← hlx, zip_zero, ec]
  clear T hby hyb hyc hyt hys ezb ec et es hbz
  clear Y Z
  rintro x w6 ⟨j, Y, Z, rfl, hj, T, hby, hbz, eyb, ezb, ec, et, es, htj⟩
  refine bc (fun hlt => ?_) (fun hge => ?_)
  · have hj' : j < lb := by simpa using hlt
    obtain ⟨a, n, rfl, hn, hr⟩ := (hb.chg T.chg).ex hj'
    rw [wrapS (x := (j : Int) + 1) (by omega) (by omega)]
    refine onPtr_mk ⟨by omega, by omega, n, reads_one' hr, ?_⟩
    have a1 := add20 T.y n
    rw [hby] at a1
    refine Calls.use a1 ?_
    rintro _ w7 ⟨rfl, H7, d7⟩
    have T7 := T.setY H7 (add_own _ _) d7
    have a2 := add20 T7.z n
    rw [hbz] at a2
    refine ⟨_, rfl, Calls.use a2 ?_⟩
    rintro _ w8 ⟨rfl, H8, d8⟩
    have T8 := T7.setZ H8 (add_own _ _) d8
    have ht0 := T.x.good.t0
    have hcan : Y.can n = Z.can n := by
      have h1 : Y.tot < 2147483647 := by omega
      have h2 : Z.tot < 2147483647 := by omega
      simp [Hs.can, h1, h2]
    refine ⟨_, rfl, bcF (by rw [hcan]; simp) ⟨⟨j + 1, _, _, by omega, hj', T8, by rw [add_b, hby], by rw [add_b, hbz], by rw [add_bs, eyb], by rw [add_bs, ezb], ?_, ?_, ?_, ?_⟩, meas hj'⟩⟩
    · unfold Hs.add; rw [hcan]; split
      · simp only [eyb, ezb, ec]
        exact zip_add n (by rw [T.x.good.len, exb]) (by rw [T.y.good.len, eyb])
      · exact ec
    · unfold Hs.add; rw [hcan]; split
      · simp only [et]; omega
      · exact et
    · unfold Hs.add; rw [hcan]; split
      · simp only [es]; omega
      · exact es
    · unfold Hs.add; split
      · simp only []; omega
      · omega
  have m := merge21 T.x T.y
  rw [hbx, hby] at m
  have e0 : mergeE X Y = 0 := by
    unfold mergeE
    rw [if_pos (by rw [exb, eyb]), if_neg (by omega)]
  have em : X.merge Y = { X with cs := X.cs.zipWith (· + ·) Y.cs, tot := X.tot + Y.tot, sum := X.sum + Y.sum } := by simp [Hs.merge, e0]
  refine Calls.use m ?_
  rintro _ w7 ⟨rfl, H7, d7⟩
  have T7 := T.setX H7 (merge_own _ _) d7
  have emb := merge_b X Y
  have emc : (X.merge Y).cs = Z.cs := by rw [em, ec]
  have emt : (X.merge Y).tot = Z.tot := by rw [em, et]
  have ems : (X.merge Y).sum = Z.sum := by rw [em, es]
  have embs : (X.merge Y).bs.length = l := by rw [em]; simp only []; rw [exb, h.len]
  have ezl : Z.bs.length = l := by rw [ezb, h.len]
  rw [hbx] at emb
  rw [e0]
  clear m em hge hj T
  generalize X.merge Y = X' at *
  have c1 := counts22 T7.x
  rw [emb, emc, embs] at c1
  refine ⟨_, rfl, bcF rfl (Calls.use c1 ?_)⟩
  rintro _ w8 ⟨q8, c8, rfl, s8, k8⟩
  have T8 := T7.next k8
  have c2 := counts22 T8.z
  rw [hbz, ezl] at c2
  refine ⟨_, _, _, rfl, Calls.use c2 ?_⟩
  rintro _ w9 ⟨q9, c9, rfl, s9, k9⟩
  have T9 := T8.next k9
  have hok := T9.z.good.ok.2.1
  rw [ezb, h.len] at hok
  refine ⟨_, _, _, rfl, Calls.use (sameInts16 (s8.chgN k9).re s9.re (by omega)) ?_⟩
  rintro _ w10 ⟨rfl, k10⟩
  have T10 := T9.next k10
  have t1 := total23 T10.x
  rw [emb, emt] at t1
  refine ⟨_, rfl, bcF (by simp) (Calls.use t1 ?_)⟩
  rintro _ _ ⟨rfl, rfl⟩
  have t2 := total23 T10.z
  rw [hbz] at t2
  refine ⟨_, rfl, Calls.use t2 ?_⟩
  rintro _ _ ⟨rfl, rfl⟩
  have u1 := sum24 T10.x
  rw [emb, ems] at u1
  refine ⟨_, rfl, bcF (by simp) (Calls.use u1 ?_)⟩
  rintro _ _ ⟨rfl, rfl⟩
  have u2 := sum24 T10.z
  rw [hbz] at u2
  refine ⟨_, rfl, Calls.use u2 ?_⟩
  rintro _ _ ⟨rfl, rfl⟩
  have c3 := counts22 T10.z
  rw [hbz, ezl] at c3
  refine ⟨_, rfl, bcF (by simp) (Calls.use c3 ?_)⟩
  rintro _ w11 ⟨q11, c11, rfl, s11, k11⟩
  have T11 := T10.next k11
  have g := T11.z.good
  have hlz : Z.cs.length = l + 1 := by rw [g.len, ezl]
  refine ⟨_, _, _, rfl, fun s x w' => ∃ i : Nat, x = i ∧ i ≤ l + 1 ∧ s = (Z.cs.take i).sum ∧ w11 = w', fun _ x _ => l + 1 - x.toNat, ⟨0, rfl, Nat.zero_le _, by simp, rfl⟩, ?_⟩
  rintro _ _ _ ⟨i, rfl, hi, rfl, rfl⟩
  refine bc (fun hlt => ?_) (fun hge => ?_)
  · have hi' : i < l + 1 := by simp at hlt; omega
    obtain ⟨a, n, rfl, hn, hr⟩ := s11.re.ex hi'
    have h1 := sum_take_le (i + 1) g.pos
    have h2 := sum_take_succ hn
    have h3 := g.all
    have h4 := g.t1
    have h5 := sum_take_le i g.pos
    refine onPtr_mk ⟨by omega, by omega, n, reads_one' hr, ?_⟩
    rw [wrapS (x := (i : Int) + 1) (by omega) (by omega), wrapS (x := (Z.cs.take i).sum + n) (by omega) (by omega)]
    exact ⟨⟨i + 1, by omega, hi', h2.symm, rfl⟩, meas hi'⟩
  · have hil : Z.cs.take i = Z.cs := List.take_of_length_le (by simp at hge; omega)
    rw [hil, g.all]
    have h1l : 1 ≤ l := by have := g.ok.1; omega
    obtain ⟨a0, n0, rfl, hn0, hr0⟩ := (h.chg T11.chg).ex (i := 0) (by omega)
    simp only [Nat.zero_mul] at hr0
    refine onPtr_mk ⟨by omega, by omega, n0, reads_one' hr0, fun x y w' => ∃ j : Nat, y = j ∧ j ≤ 9 ∧ (∀ k' : Int, (j : Int) ≤ k' → (quant Z.bs Z.cs Z.tot k' 8).2 = 0 → x ≤ (quant Z.bs Z.cs Z.tot k' 8).1) ∧ w11 = w', fun _ y _ => 9 - y.toNat, ⟨0, rfl, by omega, fun k' _ hk => ?_, rfl⟩, ?_⟩
    · have hm := quant_mem hk
      rw [ezb] at hm
      obtain ⟨i, hi⟩ := List.getElem?_of_mem hm
      cases i with
      | zero => rw [hn0] at hi; cases hi; rw [ezb]; exact Int.le_refl _
      | succ i =>
        have := ok.lt i 0 n0 _ hn0 (by rw [Nat.zero_add]; exact hi)
        rw [ezb]; omega
    rintro x _ _ ⟨j, rfl, hj, hx, rfl⟩
    refine bc (fun hle => ?_) (fun hgt => ?_)
    · have hj8 : j ≤ 8 := by simp at hle; omega
      have qq := quantile25 T11.z (j : Int) 8 (by omega)
      rw [hbz] at qq
      refine Calls.use qq ?_
      rintro _ _ ⟨rfl, rfl⟩
      refine ⟨_, _, rfl, ?_⟩
      rw [wrapS (x := (j : Int) + 1) (by omega) (by omega)]
      have ms : 9 - ((j : Int) + 1).toNat < 9 - (j : Int).toNat := by omega
      refine bc (fun h0 => ?_) (fun h0 => ?_)
      · have h0 : (quant Z.bs Z.cs Z.tot (j : Int) 8).2 = 0 := by simpa using h0
        have := hx j (Int.le_refl _) h0
        refine bcF (by simp; omega) (bcT (by simp [h0]) ⟨⟨j + 1, by omega, by omega, fun k' hk' hq => ?_, rfl⟩, ms⟩)
        exact (quant_mono g.ok.pair g.t0 (by omega) (by omega) hq).2
      · exact bcF h0 ⟨⟨j + 1, by omega, by omega, fun k' hk' hq => hx k' (by omega) hq, rfl⟩, ms⟩
    · have t3 := total23 T11.z
      rw [hbz] at t3
      refine Calls.use t3 ?_
      rintro _ _ ⟨rfl, rfl⟩
      exact ⟨_, rfl, by simp, T11.chg⟩
end Go.Proofs.YtglidaifbpjpgaaDoor
