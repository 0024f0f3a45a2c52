import Derived.Test.YtibpbbjlecohiaaLbN
set_option maxRecDepth 20000
namespace Go.Proofs.Ytibpbbjlecohiaa
namespace Full
open Go Go.Vc Go.RowKit
def new8 (a b c d : Nat) : S8 := ⟨free a, List.replicate b ⟨[], -1, []⟩, List.replicate c [], List.replicate d 0, fun _ => none⟩
theorem new17 (w : World) (a b c d : Int) : Calls Try.prog 17 #[.agg #[.int .i64 a, .int .i64 b, .int .i64 c, .int .i64 d]] w (Ret fun v w' =>
    (¬ (okN a ∧ okN b ∧ okN c ∧ okN d) ∧ v = .tuple #[.pointer none, .int .i64 1] ∧ Chg none_ w w') ∨ ((okN a ∧ okN b ∧ okN c ∧ okN d) ∧ ∃ o g, v = .tuple #[.pointer (some (ad o)), .int .i64 0] ∧ InvG w' w.heap.size 0 0 o g (new8 a.toNat b.toNat c.toNat d.toNat) ∧ Chg none_ w w')) := by
  refine f17.calls _ _ _ _ ?_
  unfold f17.wp
  refine newBox fun w1 B1 k1 _ => ⟨_, (B1.cell 0).trans rfl, _, (B1.cell0 1).trans rfl, _, (B1.cell0 2).trans rfl, _, (B1.cell0 3).trans rfl, newBox fun w2 B2 k2 _ => ?_⟩
  have k02 := k1.trans k2
  have A2 := k2.blk B1 (fun x => x)
  have at4 : ∀ i : Nat, i < 4 → ∃ v, [a, b, c, d][i]? = some v ∧ w2.cell? ((⟨w1.heap.size, 0, none⟩ : Addr).add (i * 1)) = some (.int .i64 v) := fun i hi => by
    obtain ⟨v, hv⟩ := get_ex (l := [a, b, c, d]) (i := i) hi
    refine ⟨v, hv, ?_⟩
    rw [Nat.mul_one, B2.cell0]
    rcases i with _ | _ | _ | _ | i
    · cases hv; rfl
    · cases hv; rfl
    · cases hv; rfl
    · cases hv; rfl
    · omega
  refine ⟨fun x w' => ∃ i : Nat, x = i ∧ i ≤ 4 ∧ w2 = w' ∧ ∀ (j : Nat) v, j < i → [a, b, c, d][j]? = some v → okN v, fun x _ => 4 - x.toNat, ⟨0, rfl, by decide, rfl, fun j v hj => by omega⟩, ?_⟩
  rintro x _ ⟨i, rfl, hi, rfl, hin⟩
  refine bc (fun hlt => ?_) (fun hge => ?_)
  · have hi' : i < 4 := by have := of_decide_eq_true hlt; omega
    obtain ⟨v, hv, hc⟩ := at4 i hi'
    have bad : ¬ okN v → ¬ (okN a ∧ okN b ∧ okN c ∧ okN d) := fun hb h => hb (by
      have : v ∈ [a, b, c, d] := List.mem_of_getElem? hv
      simp at this
      rcases this with rfl | rfl | rfl | rfl
      · exact h.1
      · exact h.2.1
      · exact h.2.2.1
      · exact h.2.2.2)
    rw [wrapS (x := (i : Int) + 1) (by omega) (by omega)]
    refine ⟨by omega, by omega, v, hc, bc (fun h => .inl ⟨bad fun ho => ?_, rfl, k02⟩) (fun h0 => bc (fun h => .inl ⟨bad fun ho => ?_, rfl, k02⟩) (fun h1 => ⟨⟨i + 1, by omega, hi', rfl, fun j u hj hu => ?_⟩, ?_⟩))⟩
    · have := of_decide_eq_true h; have := ho.1; omega
    · have := of_decide_eq_true h; have := ho.2; omega
    · rcases Nat.lt_or_ge j i with h2 | h2
      · exact hin j u h2 hu
      · have : j = i := by omega
        subst this
        rw [hv] at hu; cases hu
        have := of_decide_eq_false h0; have := of_decide_eq_false h1
        exact ⟨by omega, by omega⟩
    · show 4 - ((i : Int) + 1).toNat < 4 - (i : Int).toNat
      omega
  have hi4 : i = 4 := by have := of_decide_eq_false hge; omega
  subst hi4
  have ha : okN a := hin 0 a (by decide) rfl
  have hb : okN b := hin 1 b (by decide) rfl
  have hc : okN c := hin 2 c (by decide) rfl
  have hd : okN d := hin 3 d (by decide) rfl
  have hall : okN a ∧ okN b ∧ okN c ∧ okN d := ⟨ha, hb, hc, hd⟩
  obtain ⟨ha0, ha1⟩ := ha
  obtain ⟨hb0, hb1⟩ := hb
  obtain ⟨hc0, hc1⟩ := hc
  obtain ⟨hd0, hd1⟩ := hd
  have D2 := A2.drew
  have k02' := k02.drew
  generalize w2.drew = W at *
  refine ⟨J W a b c d, ?_, fun p => p.block < W.heap.size, _, D2.lt, (D2.cell 0).trans rfl, _, D2.lt, (D2.cell0 1).trans rfl, _, D2.lt, (D2.cell0 2).trans rfl, _, D2.lt, (D2.cell0 3).trans rfl, ?_⟩
  · rintro p w4 ⟨b1, b2, b3, b4, m, o, rfl, O, M1, M2, M3, M4, M, p1, p2, p3, p4, pm, po, kJ⟩
    obtain ⟨n1, rfl⟩ : ∃ n : Nat, a = n := ⟨a.toNat, by omega⟩
    obtain ⟨n2, rfl⟩ : ∃ n : Nat, b = n := ⟨b.toNat, by omega⟩
    obtain ⟨n3, rfl⟩ : ∃ n : Nat, c = n := ⟨c.toNat, by omega⟩
    obtain ⟨n4, rfl⟩ : ∃ n : Nat, d = n := ⟨d.toNat, by omega⟩
    simp only [Int.toNat_natCast] at O M1 M2 M3 M4 ⊢
    have S1 : SE En.mxh w4 W.heap.size 97 (some (ad b1)) n1 n1 (List.replicate n1 (⟨0, (none, 0, 0)⟩ : MxH)) := SE.made (n := n1) (x := (⟨0, (none, 0, 0)⟩ : MxH)) M1 rfl p1 (by simp only [maxLen]; omega)
    have ob1 := blk_ne O M1 (by decide)
    have ob2 := blk_ne O M2 (by decide)
    have b12 := blk_ne M1 M2 (by decide)
    have b13 := blk_ne M1 M3 (by decide)
    have b14 := blk_ne M1 M4 (by decide)
    have b23 := blk_ne M2 M3 (by decide)
    have b24 := blk_ne M2 M4 (by decide)
    refine onPtr_mk ⟨_, _, _, (O.cell 0).trans rfl, fun x w' => ∃ (i : Nat) (hs : List MxH), x = i ∧ i ≤ n1 ∧ SE En.mxh w' W.heap.size 97 (some (ad b1)) n1 n1 hs ∧ (∀ (j : Nat) h, hs[j]? = some h → h.hd = (none, 0, 0) ∧ (j < i → h.owner = -1)) ∧ Chg (fun k => k = b1) w4 w', fun x _ => n1 - x.toNat, ⟨0, _, rfl, Nat.zero_le _, S1, fun j h hj => ⟨by have := List.mem_of_getElem? hj; rw [List.eq_of_mem_replicate this], fun h => by omega⟩, Chg.refl _ _⟩, ?_⟩
    rintro x w5 ⟨i, hs, rfl, hi, S5, hh, k5⟩
    have O5 := k5.blk O ob1
    refine bc (fun hlt => ?_) (fun hge => ?_)
    · have hi' : i < n1 := by have := of_decide_eq_true hlt; omega
      rw [wrapS (x := (i : Int) + 1) (by omega) (by omega)]
      obtain ⟨h0, hx⟩ := get_ex (l := hs) (i := i) (by rw [S5.len]; exact hi')
      obtain ⟨a', ha', hcan⟩ := S5.can hi'
      cases ha'
      have hc0 := hcan 0 1 (by decide)
      rw [add_zero'] at hc0
      refine onPtr_mk ⟨_, _, _, (O5.cell 0).trans rfl, onPtr_mk ⟨by omega, by omega, hc0, fun w6 e6 => ?_⟩⟩
      obtain ⟨S6, k6⟩ := S5.setAt (w' := w6) (o := 0) (x' := ⟨-1, h0.hd⟩) rfl hx (by decide) (mxh_own h0 (-1)) (by rw [add_zero']; exact e6)
      refine ⟨⟨i + 1, _, rfl, hi', S6, fun j h hj => ?_, k5.trans (k6.mono fun k _ hk => by simpa [qB] using hk)⟩, meas hi'⟩
      rcases set_cases hj with ⟨rfl, rfl⟩ | ⟨hne, hj⟩
      · exact ⟨(hh i h0 hx).1, fun _ => rfl⟩
      · exact ⟨(hh j h hj).1, fun hlt => (hh j h hj).2 (by omega)⟩
    · have hi1 : i = n1 := by have := of_decide_eq_false hge; omega
      subst hi1
      have S2 : SE En.lkh w5 W.heap.size 99 (some (ad b2)) n2 n2 (List.replicate n2 (⟨(none, 0, 0), 0, (none, 0, 0)⟩ : LkH)) := SE.made (n := n2) (x := (⟨(none, 0, 0), 0, (none, 0, 0)⟩ : LkH)) (k5.blk M2 (fun e => b12 e.symm)) rfl p2 (by simp only [maxLen]; omega)
      refine onPtr_mk ⟨_, _, _, (O5.cell0 1).trans rfl, fun x w' => ∃ (j : Nat) (ls : List LkH), x = j ∧ j ≤ n2 ∧ SE En.lkh w' W.heap.size 99 (some (ad b2)) n2 n2 ls ∧ (∀ (k : Nat) h, ls[k]? = some h → h.readers = (none, 0, 0) ∧ h.hd = (none, 0, 0) ∧ (k < j → h.writer = -1)) ∧ Chg (fun k => k = b2) w5 w', fun x _ => n2 - x.toNat, ⟨0, _, rfl, Nat.zero_le _, S2, fun k h hk => (by have := List.mem_of_getElem? hk; rw [List.eq_of_mem_replicate this]; exact ⟨rfl, rfl, fun h => by omega⟩), Chg.refl _ _⟩, ?_⟩
      rintro x w7 ⟨j, ls, rfl, hj, S7, hls, k7⟩
      have O7 := k7.blk O5 ob2
      refine bc (fun hlt => ?_) (fun hge => ?_)
      · have hj' : j < n2 := by have := of_decide_eq_true hlt; omega
        rw [wrapS (x := (j : Int) + 1) (by omega) (by omega)]
        obtain ⟨h0, hx⟩ := get_ex (l := ls) (i := j) (by rw [S7.len]; exact hj')
        obtain ⟨a', ha', hcan⟩ := S7.can hj'
        cases ha'
        refine onPtr_mk ⟨_, _, _, (O7.cell0 1).trans rfl, onPtr_mk ⟨by omega, by omega, hcan 1 1 (by decide), fun w8 e8 => ?_⟩⟩
        obtain ⟨S8, k8⟩ := S7.setAt (o := 1) (x' := ⟨h0.readers, -1, h0.hd⟩) rfl hx (by decide) (lkh_wr h0 (-1)) e8
        refine ⟨⟨j + 1, _, rfl, hj', S8, fun k h hk => ?_, k7.trans (k8.mono fun k _ hk => by simpa [qB] using hk)⟩, meas hj'⟩
        rcases set_cases hk with ⟨rfl, rfl⟩ | ⟨hne, hk⟩
        · exact ⟨(hls j h0 hx).1, (hls j h0 hx).2.1, fun _ => rfl⟩
        · exact ⟨(hls k h hk).1, (hls k h hk).2.1, fun hlt => (hls k h hk).2.2 (by omega)⟩
      · have kW5 : Chg none_ W w5 := kJ.up k5 fun k hk => by omega
        have kW7 : Chg none_ W w7 := kW5.up k7 fun k hk => by omega
        have hhs : hs = List.replicate i (⟨-1, (none, 0, 0)⟩ : MxH) := by
          refine List.eq_replicate_iff.2 ⟨S5.len, fun x hx => ?_⟩
          obtain ⟨j, hj⟩ := List.getElem?_of_mem hx
          have h1 := hh j x hj
          have h2 := h1.2 (by have := get_lt hj; rw [S5.len] at this; exact this)
          cases x
          simp only at h1 h2
          rw [h1.1, h2]
        subst hhs
        have hj2 : j = n2 := by have := of_decide_eq_false hge; omega
        subst hj2
        have hll : ls = List.replicate j (⟨(none, 0, 0), -1, (none, 0, 0)⟩ : LkH) := by
          refine List.eq_replicate_iff.2 ⟨S7.len, fun x hx => ?_⟩
          obtain ⟨k, hk⟩ := List.getElem?_of_mem hx
          obtain ⟨h1, h2, h3⟩ := hls k x hk
          have h3 := h3 (by have := get_lt hk; rw [S7.len] at this; exact this)
          cases x
          simp only at h1 h2 h3
          rw [h1, h2, h3]
        subst hll
        have s3 : SE En.hd w7 W.heap.size 95 (some (ad b3)) n3 n3 (List.replicate n3 ((none, 0, 0) : Hd)) := SE.made (n := n3) (x := ((none, 0, 0) : Hd)) (k7.blk (k5.blk M3 (fun e => b13 e.symm)) (fun e => b23 e.symm)) rfl p3 (by simp only [maxLen]; omega)
        have s4 : SE En.int w7 W.heap.size 2 (some (ad b4)) n4 n4 (List.replicate n4 (0 : Int)) := SE.made (n := n4) (x := (0 : Int)) (k7.blk (k5.blk M4 (fun e => b14 e.symm)) (fun e => b24 e.symm)) rfl p4 (by simp only [maxLen]; omega)
        have sm := S5.chg k7 fun g hg e => by simp [qB] at hg; omega
        have mp := (M.chg k5 (Mp.ne M M1)).chg k7 (Mp.ne (M.chg k5 (Mp.ne M M1)) (k5.blk M2 (fun e => b12 e.symm)))
        have hWb := k02'.size
        have nilr : ∀ {α : Type} (E : En α) (e : TypeId) (hs : List Hd) (xss : List (List α)), hs.length = xss.length → (∀ h ∈ hs, h = (none, 0, 0)) → (∀ x ∈ xss, x = []) → RowsE E w7 w.heap.size e hs xss := fun E e hs xss hl hh hx => ⟨hl, fun j h xs hj hxj => by
          rw [hh h (List.mem_of_getElem? hj), hx xs (List.mem_of_getElem? hxj)]
          exact SE.nil _ _ _ _, fun j j' h h' g hj _ hg _ => by
          rw [hh h (List.mem_of_getElem? hj)] at hg
          simp [qB] at hg⟩
        have tot0 : ∀ {α : Type} (xss : List (List α)), (∀ x ∈ xss, x = []) → tot xss = 0 := fun xss => by
          induction xss with
          | nil => intro _; rfl
          | cons x xs ih =>
            intro h
            have h1 := h x (.head _)
            have h2 := ih fun y hy => h y (.tail _ hy)
            subst h1
            simp [tot] at h2 ⊢; exact h2
        have hq0 : ∀ x ∈ (new8 i j n3 n4).qs, x = [] := fun x hx => by
          have hx : x ∈ (free i).map Mx.queue ++ ((List.replicate j (⟨[], -1, []⟩ : Lk)).map Lk.queue ++ List.replicate n3 []) := hx
          rcases List.mem_append.1 hx with h | h
          · obtain ⟨y, hy, rfl⟩ := List.mem_map.1 h
            rw [free] at hy
            rw [List.eq_of_mem_replicate hy]
          · rcases List.mem_append.1 h with h | h
            · obtain ⟨y, hy, rfl⟩ := List.mem_map.1 h
              rw [List.eq_of_mem_replicate hy]
            · exact List.eq_of_mem_replicate h
        refine .inr ⟨hall, o, ⟨some (ad b1), i, some (ad b2), j, some (ad b3), n3, some (ad b4), n4, m, 0, List.replicate i (⟨-1, (none, 0, 0)⟩ : MxH), List.replicate j (⟨(none, 0, 0), -1, (none, 0, 0)⟩ : LkH), List.replicate n3 ((none, 0, 0) : Hd)⟩, rfl, ?_, k02'.trans kW7⟩
        exact { obj := by simp only [new8, free, List.length_replicate]; exact O7
                mx := by simp only [new8, free, List.length_replicate]; exact sm.lower hWb
                lk := by simp only [new8, List.length_replicate]; exact S7.lower hWb
                cd := by simp only [new8, List.length_replicate]; exact s3.lower hWb
                ct := by simp only [new8, List.length_replicate]; exact s4.lower hWb
                rds := nilr _ _ _ _ (by simp [new8]) (fun h hh => by simp at hh; exact hh.2) (fun x hx => by simp [new8] at hx; exact hx.2)
                wts := mp
                bo := Nat.le_trans hWb po
                own := by simp [new8, free]
                wri := by simp [new8]
                que := nilr _ _ _ _ (by simp [new8, S8.qs, G8.qs, free]) (fun h hh => by
                  have hh : h ∈ (List.replicate i (⟨-1, (none, 0, 0)⟩ : MxH)).map MxH.hd ++ ((List.replicate j (⟨(none, 0, 0), -1, (none, 0, 0)⟩ : LkH)).map LkH.hd ++ List.replicate n3 ((none, 0, 0) : Hd)) := hh
                  rcases List.mem_append.1 hh with h' | h'
                  · obtain ⟨y, hy, rfl⟩ := List.mem_map.1 h'
                    rw [List.eq_of_mem_replicate hy]
                  · rcases List.mem_append.1 h' with h' | h'
                    · obtain ⟨y, hy, rfl⟩ := List.mem_map.1 h'
                      rw [List.eq_of_mem_replicate hy]
                    · exact List.eq_of_mem_replicate h') hq0
                bm := Nat.le_trans hWb pm
                hn := by
                  have : tot (new8 i j n3 n4).cs = 0 := tot0 _ fun x hx => by simp [new8] at hx; exact hx.2
                  simp only [this]; exact Nat.le_refl _
                hq := by
                  have h1 := tot0 _ hq0
                  have h2 : tot ((new8 i j n3 n4).ls.map Lk.readers) = 0 := tot0 _ fun x hx => by simp [new8] at hx; exact hx.2
                  omega
                ht := fun x hx y hy => by rw [hq0 x hx] at hy; cases hy
                hc := fun x hx y hy => by
                  have : x = [] := by simp [new8] at hx; exact hx.2
                  rw [this] at hy; cases hy }
  · have S0 : St W W [] none := ⟨Chg.refl _ _, fun b t cs hm => (by cases hm), fun m hm => (by cases hm)⟩
    repeat' (first
      | (refine mkStep (by assumption) (by omega) (by omega) (by omega) fun w' h' => ?_)
      | (refine mapStep (by assumption) fun w' h' => ?_)
      | (refine leaf (by assumption) (by repeat' (first | exact .head _ | apply List.Mem.tail)) (by repeat' (first | exact .head _ | apply List.Mem.tail)) (by repeat' (first | exact .head _ | apply List.Mem.tail)) (by repeat' (first | exact .head _ | apply List.Mem.tail)))
      | (refine ⟨?_, ?_⟩))
end Full
end Go.Proofs.Ytibpbbjlecohiaa
