import Derived.Test.YtibpbbjlecohiaaLaA
set_option maxRecDepth 20000
namespace Go.Proofs.Ytibpbbjlecohiaa
open Go Go.Vc Go.RowKit
/-! # New -/
structure St (W w : World) (L : List (Nat × TypeId × Array Value)) (M : Option Nat) : Prop where
  chg : Chg none_ W w
  blk : ∀ b t cs, (b, t, cs) ∈ L → Blk w b t cs ∧ W.heap.size ≤ b
  map : ∀ m, M = some m → Mp Try.prog 3 w m 0 (fun _ => none) ∧ W.heap.size ≤ m
theorem St.step {W w w' : World} {L : List (Nat × TypeId × Array Value)} {M : Option Nat} (h : St W w L M) {t : TypeId} {cs : Array Value} (e : w' = w.alloc (.cells cs t)) : St W w' ((w.heap.size, t, cs) :: L) M := by
  have k := (Chg.refl none_ w).new' e
  refine ⟨h.chg.trans k, fun b t' cs' hm => ?_, fun m hm => ⟨(h.map m hm).1.chg k (fun x => x), (h.map m hm).2⟩⟩
  rcases List.mem_cons.1 hm with hm | hm
  · cases hm
    exact ⟨new_blk e, h.chg.size⟩
  · exact ⟨k.blk (h.blk b t' cs' hm).1 (fun x => x), (h.blk b t' cs' hm).2⟩
theorem mkStep {W w : World} {L : List (Nat × TypeId × Array Value)} {M : Option Nat} {n : Int} {k : Nat} {t : TypeId} {cs : Array Value} {C : World → Prop} (h : St W w L M) (h1 : 0 ≤ n) (h2 : ((k : Nat) : Int) * n ≤ 281474976710656) (h3 : n ≤ 9223372036854775807) (hC : ∀ w', St W w' ((w.heap.size, t, cs) :: L) M → C w') :
    0 ≤ n ∧ n ≤ n ∧ ((k : Nat) : Int) * n ≤ 281474976710656 ∧ n ≤ 9223372036854775807 ∧ ∀ w' : World, w' = w.alloc (.cells cs t) → Keeps (fun p => p.block < W.heap.size) W w' ∧ C w' :=
  ⟨h1, Int.le_refl _, h2, h3, fun w' e => ⟨(h.step e).chg.keeps, hC w' (h.step e)⟩⟩
theorem mapStep {W w : World} {L : List (Nat × TypeId × Array Value)} {C : Option Nat → World → Prop} (h : St W w L none) (hC : ∀ w', St W w' L (some w.heap.size) → C (some w.heap.size) w') :
    ∃ m : Option Nat, ∃ w' : World, (Instr.makeMap 87 none).run Try.prog w = .ok (.map m) w' ∧ Keeps (fun p => p.block < W.heap.size) W w' ∧ C m w' := by
  have k : Chg none_ w (w.alloc (.map #[] 0)) := (Chg.refl none_ w).alloc _
  have s : St W (w.alloc (.map #[] 0)) L (some w.heap.size) := ⟨h.chg.trans k, fun b t cs hm => ⟨k.blk (h.blk b t cs hm).1 (fun x => x), (h.blk b t cs hm).2⟩, fun m hm => by cases hm; exact ⟨Mp.made w, h.chg.size⟩⟩
  exact ⟨_, _, rfl, s.chg.keeps, hC _ s⟩
structure LkH where
  readers : Hd
  writer : Int
  hd : Hd
def En.lkh : En LkH := ⟨3, fun x => [.slice x.readers.1 x.readers.2.1 x.readers.2.2, .int .i64 x.writer, .slice x.hd.1 x.hd.2.1 x.hd.2.2], fun _ => rfl, fun _ v hv => by simp at hv; rcases hv with rfl | rfl | rfl <;> rfl, by decide⟩
structure J (W : World) (n1 n2 n3 n4 : Int) (p : Option Addr) (w : World) : Prop where
  ex : ∃ b1 b2 b3 b4 m o, p = some (ad o) ∧ Blk w o 89 #[.slice (some (ad b1)) n1.toNat n1.toNat, .slice (some (ad b2)) n2.toNat n2.toNat, .slice (some (ad b3)) n3.toNat n3.toNat, .slice (some (ad b4)) n4.toNat n4.toNat, .map (some m)] ∧
    Blk w b1 97 (madeCells #[.int .i64 0, .slice none 0 0] (n1.toNat * 2)) ∧ Blk w b2 99 (madeCells #[.slice none 0 0, .int .i64 0, .slice none 0 0] (n2.toNat * 3)) ∧ Blk w b3 95 (madeCells #[.slice none 0 0] (n3.toNat * 1)) ∧ Blk w b4 2 (madeCells #[.int .i64 0] (n4.toNat * 1)) ∧
    Mp Try.prog 3 w m 0 (fun _ => none) ∧ W.heap.size ≤ b1 ∧ W.heap.size ≤ b2 ∧ W.heap.size ≤ b3 ∧ W.heap.size ≤ b4 ∧ W.heap.size ≤ m ∧ W.heap.size ≤ o ∧ Chg none_ W w
theorem leaf {W w : World} {L : List (Nat × TypeId × Array Value)} {n1 n2 n3 n4 : Int} {b1 b2 b3 b4 m : Nat} (h : St W w L (some m)) (h1 : (b1, 97, madeCells #[.int .i64 0, .slice none 0 0] (n1.toNat * 2)) ∈ L) (h2 : (b2, 99, madeCells #[.slice none 0 0, .int .i64 0, .slice none 0 0] (n2.toNat * 3)) ∈ L)
    (h3 : (b3, 95, madeCells #[.slice none 0 0] (n3.toNat * 1)) ∈ L) (h4 : (b4, 2, madeCells #[.int .i64 0] (n4.toNat * 1)) ∈ L) :
    ∀ w' : World, w' = w.alloc (.cells #[.slice (some (⟨b1, 0, none⟩ : Addr)) n1.toNat n1.toNat, .slice (some (⟨b2, 0, none⟩ : Addr)) n2.toNat n2.toNat, .slice (some (⟨b3, 0, none⟩ : Addr)) n3.toNat n3.toNat, .slice (some (⟨b4, 0, none⟩ : Addr)) n4.toNat n4.toNat, .map (some m)] 89) → J W n1 n2 n3 n4 (some (⟨w.heap.size, 0, none⟩ : Addr)) w' := fun w' e => by
  have s := h.step e
  have o := s.blk _ _ _ (.head _)
  have x1 := s.blk _ _ _ (.tail _ h1)
  have x2 := s.blk _ _ _ (.tail _ h2)
  have x3 := s.blk _ _ _ (.tail _ h3)
  have x4 := s.blk _ _ _ (.tail _ h4)
  have xm := s.map m rfl
  exact ⟨b1, b2, b3, b4, m, w.heap.size, rfl, o.1, x1.1, x2.1, x3.1, x4.1, xm.1, x1.2, x2.2, x3.2, x4.2, xm.2, o.2, s.chg⟩
theorem blk_ne {w : World} {a b : Nat} {t t' : TypeId} {cs cs' : Array Value} (A : Blk w a t cs) (B : Blk w b t' cs') (h : t ≠ t') : a ≠ b := fun e => by
  subst e
  rw [Blk, A] at B
  cases B
  exact h rfl
theorem mxh_own (x : MxH) (o : Int) : ∀ j, (En.mxh.enc ⟨o, x.hd⟩)[j]? = if 0 ≤ j ∧ j < 0 + [Value.int .i64 o].length then [Value.int .i64 o][j - 0]? else (En.mxh.enc x)[j]? := fun j => by
  rcases j with _ | j
  · rfl
  · rw [if_neg (by simp)]; rfl
theorem mxh_hd (x : MxH) (h : Hd) : ∀ j, (En.mxh.enc ⟨x.owner, h⟩)[j]? = if 1 ≤ j ∧ j < 1 + [Value.slice h.1 h.2.1 h.2.2].length then [Value.slice h.1 h.2.1 h.2.2][j - 1]? else (En.mxh.enc x)[j]? := fun j => by
  rcases j with _ | _ | j
  · rfl
  · rfl
  · rw [if_neg (by simp)]; rfl
theorem lkh_wr (x : LkH) (o : Int) : ∀ j, (En.lkh.enc ⟨x.readers, o, x.hd⟩)[j]? = if 1 ≤ j ∧ j < 1 + [Value.int .i64 o].length then [Value.int .i64 o][j - 1]? else (En.lkh.enc x)[j]? := fun j => by
  rcases j with _ | _ | j
  · rfl
  · rfl
  · rw [if_neg (by simp)]; rfl
def okN (n : Int) : Prop := 0 ≤ n ∧ n ≤ 64
def free (n : Nat) : List Mx := List.replicate n ⟨-1, []⟩
theorem new17 (w : World) (a b c d : Int) : Calls Try.prog 17 #[.agg #[.int .i64 a, .int .i64 b, .int .i64 c, .int .i64 d]] w (Ret fun v w' =>
    (¬ (okN a ∧ okN b ∧ okN c ∧ okN d) ∧ v = .tuple #[.pointer none, .int .i64 1] ∧ Chg none_ w w') ∨ ((okN a ∧ okN b ∧ okN c ∧ okN d) ∧ ∃ o, v = .tuple #[.pointer (some (ad o)), .int .i64 0] ∧ Inv w' w.heap.size 0 0 o (free a.toNat) (fun _ => none) ∧ Chg none_ w w')) := by
  refine f17.calls _ _ _ _ ?_
  unfold f17.wp
  refine newBox fun w1 B1 k1 _ => ⟨_, (B1.cell 0).trans rfl, _, (B1.cell0 1).trans rfl, _, (B1.cell0 2).trans rfl, _, (B1.cell0 3).trans rfl, newBox fun w2 B2 k2 _ => ?_⟩
  have k02 := k1.trans k2
  have A2 := k2.blk B1 (fun x => x)
  have at4 : ∀ i : Nat, i < 4 → ∃ v, [a, b, c, d][i]? = some v ∧ w2.cell? ((⟨w1.heap.size, 0, none⟩ : Addr).add (i * 1)) = some (.int .i64 v) := fun i hi => by
    obtain ⟨v, hv⟩ := get_ex (l := [a, b, c, d]) (i := i) hi
    refine ⟨v, hv, ?_⟩
    rw [Nat.mul_one, B2.cell0]
    rcases i with _ | _ | _ | _ | i
    · cases hv; rfl
    · cases hv; rfl
    · cases hv; rfl
    · cases hv; rfl
    · omega
  refine ⟨fun x w' => ∃ i : Nat, x = i ∧ i ≤ 4 ∧ w2 = w' ∧ ∀ (j : Nat) v, j < i → [a, b, c, d][j]? = some v → okN v, fun x _ => 4 - x.toNat, ⟨0, rfl, by decide, rfl, fun j v hj => by omega⟩, ?_⟩
  rintro x _ ⟨i, rfl, hi, rfl, hin⟩
  refine bc (fun hlt => ?_) (fun hge => ?_)
  · have hi' : i < 4 := by have := of_decide_eq_true hlt; omega
    obtain ⟨v, hv, hc⟩ := at4 i hi'
    have bad : ¬ okN v → ¬ (okN a ∧ okN b ∧ okN c ∧ okN d) := fun hb h => hb (by
      have : v ∈ [a, b, c, d] := List.mem_of_getElem? hv
      simp at this
      rcases this with rfl | rfl | rfl | rfl
      · exact h.1
      · exact h.2.1
      · exact h.2.2.1
      · exact h.2.2.2)
    rw [wrapS (x := (i : Int) + 1) (by omega) (by omega)]
    refine ⟨by omega, by omega, v, hc, bc (fun h => .inl ⟨bad fun ho => ?_, rfl, k02⟩) (fun h0 => bc (fun h => .inl ⟨bad fun ho => ?_, rfl, k02⟩) (fun h1 => ⟨⟨i + 1, by omega, hi', rfl, fun j u hj hu => ?_⟩, ?_⟩))⟩
    · have := of_decide_eq_true h; have := ho.1; omega
    · have := of_decide_eq_true h; have := ho.2; omega
    · rcases Nat.lt_or_ge j i with h2 | h2
      · exact hin j u h2 hu
      · have : j = i := by omega
        subst this
        rw [hv] at hu; cases hu
        have := of_decide_eq_false h0; have := of_decide_eq_false h1
        exact ⟨by omega, by omega⟩
    · show 4 - ((i : Int) + 1).toNat < 4 - (i : Int).toNat
      omega
  have hi4 : i = 4 := by have := of_decide_eq_false hge; omega
  subst hi4
  have ha : okN a := hin 0 a (by decide) rfl
  have hb : okN b := hin 1 b (by decide) rfl
  have hc : okN c := hin 2 c (by decide) rfl
  have hd : okN d := hin 3 d (by decide) rfl
  have hall : okN a ∧ okN b ∧ okN c ∧ okN d := ⟨ha, hb, hc, hd⟩
  obtain ⟨ha0, ha1⟩ := ha
  obtain ⟨hb0, hb1⟩ := hb
  obtain ⟨hc0, hc1⟩ := hc
  obtain ⟨hd0, hd1⟩ := hd
  have D2 := A2.drew
  have k02' := k02.drew
  generalize w2.drew = W at *
  refine ⟨J W a b c d, ?_, fun p => p.block < W.heap.size, _, D2.lt, (D2.cell 0).trans rfl, _, D2.lt, (D2.cell0 1).trans rfl, _, D2.lt, (D2.cell0 2).trans rfl, _, D2.lt, (D2.cell0 3).trans rfl, ?_⟩
  · rintro p w4 ⟨b1, b2, b3, b4, m, o, rfl, O, M1, M2, _, _, M, p1, p2, _, _, pm, po, kJ⟩
    obtain ⟨n1, rfl⟩ : ∃ n : Nat, a = n := ⟨a.toNat, by omega⟩
    obtain ⟨n2, rfl⟩ : ∃ n : Nat, b = n := ⟨b.toNat, by omega⟩
    simp only [Int.toNat_natCast] at O M1 M2 ⊢
    have S1 : SE En.mxh w4 W.heap.size 97 (some (ad b1)) n1 n1 (List.replicate n1 (⟨0, (none, 0, 0)⟩ : MxH)) := SE.made (n := n1) (x := (⟨0, (none, 0, 0)⟩ : MxH)) M1 rfl p1 (by simp only [maxLen]; omega)
    have ob1 := blk_ne O M1 (by decide)
    have ob2 := blk_ne O M2 (by decide)
    have b12 := blk_ne M1 M2 (by decide)
    refine onPtr_mk ⟨_, _, _, (O.cell 0).trans rfl, fun x w' => ∃ (i : Nat) (hs : List MxH), x = i ∧ i ≤ n1 ∧ SE En.mxh w' W.heap.size 97 (some (ad b1)) n1 n1 hs ∧ (∀ (j : Nat) h, hs[j]? = some h → h.hd = (none, 0, 0) ∧ (j < i → h.owner = -1)) ∧ Chg (fun k => k = b1) w4 w', fun x _ => n1 - x.toNat, ⟨0, _, rfl, Nat.zero_le _, S1, fun j h hj => ⟨by have := List.mem_of_getElem? hj; rw [List.eq_of_mem_replicate this], fun h => by omega⟩, Chg.refl _ _⟩, ?_⟩
    rintro x w5 ⟨i, hs, rfl, hi, S5, hh, k5⟩
    have O5 := k5.blk O ob1
    refine bc (fun hlt => ?_) (fun hge => ?_)
    · have hi' : i < n1 := by have := of_decide_eq_true hlt; omega
      rw [wrapS (x := (i : Int) + 1) (by omega) (by omega)]
      obtain ⟨h0, hx⟩ := get_ex (l := hs) (i := i) (by rw [S5.len]; exact hi')
      obtain ⟨a', ha', hcan⟩ := S5.can hi'
      cases ha'
      have hc0 := hcan 0 1 (by decide)
      rw [add_zero'] at hc0
      refine onPtr_mk ⟨_, _, _, (O5.cell 0).trans rfl, onPtr_mk ⟨by omega, by omega, hc0, fun w6 e6 => ?_⟩⟩
      obtain ⟨S6, k6⟩ := S5.setAt (w' := w6) (o := 0) (x' := ⟨-1, h0.hd⟩) rfl hx (by decide) (mxh_own h0 (-1)) (by rw [add_zero']; exact e6)
      refine ⟨⟨i + 1, _, rfl, hi', S6, fun j h hj => ?_, k5.trans (k6.mono fun k _ hk => by simpa [qB] using hk)⟩, meas hi'⟩
      rcases set_cases hj with ⟨rfl, rfl⟩ | ⟨hne, hj⟩
      · exact ⟨(hh i h0 hx).1, fun _ => rfl⟩
      · exact ⟨(hh j h hj).1, fun hlt => (hh j h hj).2 (by omega)⟩
    · have hi1 : i = n1 := by have := of_decide_eq_false hge; omega
      subst hi1
      have S2 : SE En.lkh w5 W.heap.size 99 (some (ad b2)) n2 n2 (List.replicate n2 (⟨(none, 0, 0), 0, (none, 0, 0)⟩ : LkH)) := SE.made (n := n2) (x := (⟨(none, 0, 0), 0, (none, 0, 0)⟩ : LkH)) (k5.blk M2 (fun e => b12 e.symm)) rfl p2 (by simp only [maxLen]; omega)
      refine onPtr_mk ⟨_, _, _, (O5.cell0 1).trans rfl, fun x w' => ∃ (j : Nat) (ls : List LkH), x = j ∧ j ≤ n2 ∧ SE En.lkh w' W.heap.size 99 (some (ad b2)) n2 n2 ls ∧ Chg (fun k => k = b2) w5 w', fun x _ => n2 - x.toNat, ⟨0, _, rfl, Nat.zero_le _, S2, Chg.refl _ _⟩, ?_⟩
      rintro x w7 ⟨j, ls, rfl, hj, S7, k7⟩
      have O7 := k7.blk O5 ob2
      refine bc (fun hlt => ?_) (fun hge => ?_)
      · have hj' : j < n2 := by have := of_decide_eq_true hlt; omega
        rw [wrapS (x := (j : Int) + 1) (by omega) (by omega)]
        obtain ⟨h0, hx⟩ := get_ex (l := ls) (i := j) (by rw [S7.len]; exact hj')
        obtain ⟨a', ha', hcan⟩ := S7.can hj'
        cases ha'
        refine onPtr_mk ⟨_, _, _, (O7.cell0 1).trans rfl, onPtr_mk ⟨by omega, by omega, hcan 1 1 (by decide), fun w8 e8 => ?_⟩⟩
        obtain ⟨S8, k8⟩ := S7.setAt (o := 1) (x' := ⟨h0.readers, -1, h0.hd⟩) rfl hx (by decide) (lkh_wr h0 (-1)) e8
        exact ⟨⟨j + 1, _, rfl, hj', S8, k7.trans (k8.mono fun k _ hk => by simpa [qB] using hk)⟩, meas hj'⟩
      · have kW5 : Chg none_ W w5 := kJ.up k5 fun k hk => by omega
        have kW7 : Chg none_ W w7 := kW5.up k7 fun k hk => by omega
        have hhs : hs = List.replicate i (⟨-1, (none, 0, 0)⟩ : MxH) := by
          refine List.eq_replicate_iff.2 ⟨S5.len, fun x hx => ?_⟩
          obtain ⟨j, hj⟩ := List.getElem?_of_mem hx
          have h1 := hh j x hj
          have h2 := h1.2 (by have := get_lt hj; rw [S5.len] at this; exact this)
          cases x
          simp only at h1 h2
          rw [h1.1, h2]
        subst hhs
        refine .inr ⟨hall, o, rfl, ⟨_, _, _, _, _, _, _, _, _, _, _, m, 0, List.replicate i (⟨-1, (none, 0, 0)⟩ : MxH), by simp only [free, List.length_replicate]; exact O7, Nat.le_trans k02'.size po, ?_, by simp [free], ?_, (M.chg k5 (Mp.ne M M1)).chg k7 (Mp.ne (M.chg k5 (Mp.ne M M1)) (k5.blk M2 (fun e => b12 e.symm))), Nat.le_trans k02'.size pm, Nat.le_refl _, fun x hx => ?_, fun x hx y hy => ?_⟩, k02'.trans kW7⟩
        · have S7' := (S5.chg k7 fun g hg e => by simp [qB] at hg; omega).lower k02'.size
          simp only [free, List.length_replicate]
          exact S7'
        · refine ⟨by simp [free], fun j h xs hj hx => ?_, fun j j' h h' g hj hj' hg hg' => ?_⟩
          · have e1 := List.mem_of_getElem? hj
            have e2 := List.mem_of_getElem? hx
            simp [free] at e1 e2
            rw [e1.2, e2.2]
            exact SE.nil _ _ _ _
          · have e1 := List.mem_of_getElem? hj
            simp at e1
            rw [e1.2] at hg
            simp [qB] at hg
        · rw [free] at hx
          rw [List.eq_of_mem_replicate hx]
          exact Nat.le_refl _
        · rw [free] at hx
          rw [List.eq_of_mem_replicate hx] at hy
          cases hy
  · have S0 : St W W [] none := ⟨Chg.refl _ _, fun b t cs hm => (by cases hm), fun m hm => (by cases hm)⟩
    repeat' (first
      | (refine mkStep (by assumption) (by omega) (by omega) (by omega) fun w' h' => ?_)
      | (refine mapStep (by assumption) fun w' h' => ?_)
      | (refine leaf (by assumption) (by repeat' (first | exact .head _ | apply List.Mem.tail)) (by repeat' (first | exact .head _ | apply List.Mem.tail)) (by repeat' (first | exact .head _ | apply List.Mem.tail)) (by repeat' (first | exact .head _ | apply List.Mem.tail)))
      | (refine ⟨?_, ?_⟩))
end Go.Proofs.Ytibpbbjlecohiaa
