import Derived.Test.YtjfafkgjcgbgfaaDoorHj2
import Derived.Test.YtjfafkgjcgbgfaaDoorRf
set_option maxRecDepth 20000
namespace Go.Proofs.YtjfafkgjcgbgfaaDoor
open Go Go.Vc Go.RowKit
/-! # the moves of a key, gone over -/
/-- what the iterator has caught -/
structure It (w : World) (N b1 b2 : Nat) (q : Option Addr) (l c : Nat) (ms : List Mv) (s : ByteArray) : Prop where
  B1 : Blk w b1 23 #[.slice q l c]
  B2 : Blk w b2 9 #[.string s]
  H : RE En.mv w q l ms
  h1 : b1 < N
  h2 : b2 < N
  hq : ∀ a, q = some a → a.block < N
theorem It.step {w w' : World} {N b1 b2 : Nat} {q : Option Addr} {l c : Nat} {ms : List Mv} {s : ByteArray} (h : It w N b1 b2 q l c ms s) {S : Nat → Prop} (k : Chg S w w') (hS : ∀ g, S g → N ≤ g) : It w' N b1 b2 q l c ms s :=
  ⟨k.blk h.B1 (fun x => by have := hS _ x; have := h.h1; omega), k.blk h.B2 (fun x => by have := hS _ x; have := h.h2; omega), h.H.chgS k (fun a ha x => by have := hS _ x; have := h.hq a ha; omega), h.h1, h.h2, h.hq⟩
theorem of26 {w : World} {q : Option Addr} {l c : Nat} {ms : List Mv} (H : RE En.mv w q l ms) (hl : l * 80 ≤ 140737488351232) (hq : q = none → l = 0) (s : ByteArray) :
    Calls Tryd.prog 26 #[.slice q l c, .string s] w (Ret fun v w' => ∃ b1 b2 q' c', v = .func (.func 43) #[] #[.pointer (some ⟨b1, 0, none⟩), .pointer (some ⟨b2, 0, none⟩)] ∧ It w' w'.heap.size b1 b2 q' l c' ms s ∧ Chg none_ w w') := by
  refine f26.calls _ _ _ _ ?_
  unfold f26.wp
  refine newBox fun w1 B1 k1 z1 => newBox fun w2 B2 k2 z2 => ?_
  have B12 := k2.blk B1 (fun x => x)
  have k02 := k1.trans k2
  refine ⟨q, l, c, (B12.cell 0).trans rfl, Calls.use (clone42 (H.chg k02) hl hq) ?_⟩
  rintro _ w3 ⟨q', c', rfl, S3, k3⟩
  have B13 := k3.blk B12 (fun x => x)
  refine ⟨q', l, c', rfl, B13.canStore (by simp), fun w4 e4 => ?_⟩
  have B14 := B13.over e4 rfl
  have k4 : Chg (fun k => k = w.heap.size) w3 w4 := (Chg.refl _ w3).sets' e4 (.inl rfl)
  have z3 := k3.size
  have z4 := k4.size
  have B24 := k4.blk (k3.blk B2 (fun x => x)) (by omega)
  have S4 := S3.chg k4 fun g hg e => by have := (S3.lt hg).2; omega
  have l1 := B14.lt
  have l2 := B24.lt
  exact ⟨w.heap.size, w1.heap.size, q', c', rfl, ⟨B14, B24, S4.re, l1, l2, fun a ha => (S4.lt (by rw [ha]; rfl)).1⟩, (k02.trans k3).up k4 fun k hk => by omega⟩
theorem ofF_pre (ms : List Mv) (k : List UInt8) {n m : Nat} (h : n ≤ m) : ∃ r, ofF ms k m = ofF ms k n ++ r := by
  obtain ⟨d, rfl⟩ := Nat.exists_eq_add_of_le h
  unfold ofF
  rw [List.range_add, List.filter_append]
  exact ⟨_, rfl⟩
theorem iter43 {w : World} {b1 b2 : Nat} {q : Option Addr} {l c N : Nat} {ms : List Mv} {s : ByteArray} (T : It w N b1 b2 q l c ms s) (hl : l * 80 ≤ 140737488351232) (lp : Nat) (J : Nat → World → Prop) (Jx : World → Prop) (hJ : J 0 w)
    (hJs : ∀ i a b, w.heap.size ≤ a.heap.size → J i a → Chg none_ a b → J i b)
    (hy : ∀ (i n : Nat) (m : Mv) (w1 : World), (ofF ms s.data.toList l)[i]? = some n → ms[n]? = some m → w.heap.size ≤ w1.heap.size → J i w1 → YieldTo Tryd.prog lp #[.int .i64 (n : Int), mvV m] w1 fun b w3 => Chg (fun k => N ≤ k ∧ k < w.heap.size) w1 w3 ∧ (b = true → J (i + 1) w3) ∧ (b = false → Jx w3)) :
    Calls Tryd.prog 43 #[.func (.yield lp) #[] #[], .pointer (some ⟨b1, 0, none⟩), .pointer (some ⟨b2, 0, none⟩)] w (Ret fun _ w' => J (ofF ms s.data.toList l).length w' ∨ Jx w') := by
  have hlen := T.H.len
  refine f43_y.calls _ _ _ ?_
  unfold f43_y.wp
  refine onPtr_mk ⟨q, l, c, (T.B1.cell 0).trans rfl, fun x w' => ∃ n : Nat, x = (n : Int) ∧ n ≤ l ∧ J (ofF ms s.data.toList n).length w' ∧ Chg (fun k => N ≤ k ∧ k < w.heap.size) w w', fun x _ => l - x.toNat, ⟨0, rfl, by omega, by simpa [ofF] using hJ, Chg.refl _ _⟩, ?_⟩
  rintro _ w1 ⟨n, rfl, hn, hj, k1⟩
  have T1 := T.step k1 fun g hg => hg.1
  refine bc (fun g => ?_) fun g => ?_
  · have g : n < l := by simp at g; omega
    obtain ⟨p, m, hp, hm, hr⟩ := T1.H.ex g
    subst hp
    have hnx := ofF_next (k := s.data.toList) hm
    rw [wrapN (n := n) (by omega)]
    refine onPtr_mk ⟨by omega, by omega, m.kind, m.key, m.val, m.err, m.hit, m.life, m.frm, m.to, hr, boxed rfl rfl fun w3 B3 k3 s3 => ⟨_, (B3.cell 0).trans rfl, Calls.use (ofKey38 m.kind) ?_⟩⟩
    rintro _ w4 ⟨b, rfl, hb, h4⟩
    subst h4
    have k13 := k1.trans (k3.of_none _)
    have z1 := k1.size
    have j3 := hJs _ _ _ z1 hj k3
    have skip : ¬ (Kd m ∧ m.key.data.toList = s.data.toList) → (∃ j : Nat, ((n + 1 : Nat) : Int) = (j : Int) ∧ j ≤ l ∧ J (ofF ms s.data.toList j).length w4 ∧ Chg (fun k => N ≤ k ∧ k < w.heap.size) w w4) ∧ l - ((n + 1 : Nat) : Int).toNat < l - (n : Int).toNat := fun h => ⟨⟨n + 1, rfl, by omega, by rw [hnx, if_neg h]; exact j3, k13⟩, by simp only [Int.toNat_natCast]; omega⟩
    refine ⟨b, rfl, bc (fun h1 => ⟨m.key, (B3.cell0 1).trans rfl, onPtr_mk ⟨s, ((k3.blk T1.B2 (fun x => x)).cell 0).trans rfl, bc (fun h2 => ?_) fun h2 => skip fun hh => ?_⟩⟩) fun h1 => skip fun hh => ?_⟩
    · have h3 : Kd m ∧ m.key.data.toList = s.data.toList := ⟨hb.1 h1, by rw [ByteArray.toList_eq, ByteArray.toList_eq] at h2; simpa using h2⟩
      rw [if_pos h3] at hnx
      obtain ⟨r, hr'⟩ := ofF_pre ms s.data.toList (n := n + 1) (m := l) (by omega)
      have hget : (ofF ms s.data.toList l)[(ofF ms s.data.toList n).length]? = some n := by rw [hr', hnx]; simp
      refine ⟨m.kind, m.key, m.val, m.err, m.hit, m.life, m.frm, m.to, B3.reads0, (hy _ n m w4 hget hm (Nat.le_trans z1 k3.size) j3).mono ?_⟩
      rintro b w5 ⟨c5, ht, hf⟩
      cases b with
      | false => exact bcT rfl (.inr (hf rfl))
      | true =>
        refine bcF rfl ⟨⟨n + 1, rfl, by omega, ?_, k13.trans c5⟩, by simp only [Int.toNat_natCast]; omega⟩
        rw [hnx, List.length_append]; exact ht rfl
    · rw [ByteArray.toList_eq, ByteArray.toList_eq] at h2
      rw [hh.2] at h2; simp at h2
    · rw [hb.2 hh.1] at h1; cases h1
  · have hne : n = l := by simp at g; omega
    subst hne
    exact .inl hj
/-! # a key's round -/
structure F9 (W w : World) (st : Int) (bl bs br pb : Nat) (q : Option Addr) (l c : Nat) (q3 : Option Addr) (c3 : Nat) (us : List Nat) : Prop where
  chg : Chg none_ W w
  L : Blk w bl 23 #[.slice q l c]
  S : Blk w bs 3 #[.int .i64 st]
  R : Blk w br 4 #[.bool false]
  P : Blk w pb 57 #[.slice q3 us.length c3]
  sq : SE En.int w 0 3 q3 us.length c3 (us.map fun n : Nat => (n : Int))
  o : bl < bs ∧ bs < br ∧ br < W.heap.size ∧ W.heap.size ≤ pb
  oq : ∀ g, qB q3 = some g → g < pb
section
variable {W w w' : World} {st : Int} {bl bs br pb : Nat} {q q3 : Option Addr} {l c c3 : Nat} {us : List Nat}
theorem F9.step (h : F9 W w st bl bs br pb q l c q3 c3 us) {S : Nat → Prop} (k : Chg S w w') (hS : ∀ g, S g → pb < g) : F9 W w' st bl bs br pb q l c q3 c3 us := by
  obtain ⟨o0, o1, o2, o3⟩ := h.o
  exact ⟨h.chg.up k (fun g hg => by have := hS g hg; omega), k.blk h.L (fun x => by have := hS _ x; omega), k.blk h.S (fun x => by have := hS _ x; omega), k.blk h.R (fun x => by have := hS _ x; omega), k.blk h.P (fun x => by have := hS _ x; omega),
    h.sq.chg k (fun g hg x => by have := hS _ x; have := h.oq g hg; omega), h.o, h.oq⟩
structure G9 (W w : World) (st : Int) (bl bs br pb : Nat) (q : Option Addr) (l c : Nat) (q3 : Option Addr) (c3 : Nat) (us : List Nat) (g rd ib i : Nat) (mk : List Nat) (dm : Nat) : Prop where
  f : F9 W w st bl bs br pb q l c q3 c3 us
  bg : Blk w g 3 #[.int .i64 (rd : Int)]
  bi : Blk w ib 3 #[.int .i64 (i : Int)]
  m : Marks W mk w
  d : w.heap[dm]? = some (.deferred (some []))
  o1 : pb < g
  o2 : g < ib
  o3 : ib < dm
  om : ∀ x ∈ mk, x < ib
variable {g rd ib i dm : Nat} {mk : List Nat} {ms : List Mv}
theorem G9.step (h : G9 W w st bl bs br pb q l c q3 c3 us g rd ib i mk dm) {S : Nat → Prop} (k : Chg S w w') (hS : ∀ k, S k → dm < k) : G9 W w' st bl bs br pb q l c q3 c3 us g rd ib i mk dm :=
  have o1 := h.o1; have o2 := h.o2; have o3 := h.o3
  ⟨h.f.step k (fun k hk => by have := hS k hk; omega), k.blk h.bg (fun x => by have := hS _ x; omega), k.blk h.bi (fun x => by have := hS _ x; omega), h.m.chg k (fun x hx y => by have := hS _ y; have := h.om x hx; omega), k.at' h.d (fun x => by have := hS _ x; omega), o1, o2, o3, h.om⟩
theorem G9.set (h : G9 W w st bl bs br pb q l c q3 c3 us g rd ib i mk dm) {j : Nat} (e : w' = setCells (⟨ib, 0, none⟩ : Addr) 0 [.int .i64 (j : Int)] w) : G9 W w' st bl bs br pb q l c q3 c3 us g rd ib j mk dm ∧ Chg (fun k => k = ib) w w' := by
  have o1 := h.o1; have o2 := h.o2; have o3 := h.o3
  have k : Chg (fun k => k = ib) w w' := (Chg.refl _ w).sets' e (.inl rfl)
  exact ⟨⟨h.f.step k (fun k hk => by omega), k.blk h.bg (by omega), h.bi.over e rfl, h.m.chg k (fun x hx y => by have := h.om x hx; omega), k.at' h.d (by omega), o1, o2, o3, h.om⟩, k⟩
theorem round9 {rc : Loop} {n N : Nat} {m : Mv} (HW : RE En.mv W q l ms) (hl : l * 80 ≤ 140737488351232) (G : G9 W w st bl bs br pb q l c q3 c3 us g rd ib i mk dm) (hul : us.length ≤ l) (hx : us[i]? = some n) (hm : ms[n]? = some m)
    (hrc : Laid 119 [(3, (.pointer (some ⟨bl, 0, none⟩))), (5, (.pointer (some ⟨bs, 0, none⟩))), (6, (.pointer (some ⟨br, 0, none⟩))), (13, (.pointer (some ⟨pb, 0, none⟩))), (15, (.pointer (some ⟨g, 0, none⟩))), (16, (.pointer (some ⟨ib, 0, none⟩)))] #[67, 68] (rangeA Tryd.f9 0) (rangeB Tryd.f9 0) rc)
    (hr : RecOk w (dm + 1) rc .ready none) (hN : N ≤ ib) :
    YieldTo Tryd.prog (dm + 1) #[.int .i64 (n : Int), mvV m] w fun b w3 => Chg (fun k => N ≤ k ∧ k < dm + 2) w w3 ∧
      (b = true → G9 W w3 st bl bs br pb q l c q3 c3 us g rd ib (i + 1) mk dm ∧ RecOk w3 (dm + 1) rc .ready none) ∧
      (b = false → ∃ j : Nat, (rd = 0 ∧ (j : Int) = st) ∧ G9 W w3 st bl bs br pb q l c q3 c3 us g rd ib j mk dm ∧ RecOk w3 (dm + 1) rc .done (some (.exit 6))) := by
  obtain ⟨rc1, hl1, hrest⟩ := id hr
  refine f9.round0.yields _ _ _ _ _ _ _ _ _ _ _ _ _ _ _ hrc hl1 hrest.2.2 ?_
  unfold f9.round0.wp
  have o3 := G.o3
  have hi := get_lt hx
  have hrl := hr.lt
  refine boxed rfl rfl fun w2 B2 k2 s2 => ?_
  have r2 := hr.chg k2 (fun x => x)
  refine r2.begin fun w3 r3 c3' => ?_
  have N3 : Chg (fun k => N ≤ k ∧ k < dm + 2) w w3 := (k2.of_none _).trans (c3'.mono fun k _ hk => by omega)
  have G3 := (G.step k2 (fun k hk => hk.elim)).step c3' (fun k hk => by omega)
  have BD := (c3'.blk B2 (by omega)).drew
  have kd : Chg none_ w3 w3.drew := (Chg.refl none_ w3).drew
  have GD := G3.step kd (fun k hk => hk.elim)
  have rD := r3.chg kd (fun x => x)
  have ND : Chg (fun k => N ≤ k ∧ k < dm + 2) w w3.drew := N3.trans (kd.of_none _)
  generalize w3.drew = wd at *
  obtain ⟨a3, x', ha3, hx', hr3⟩ := GD.f.sq.re.ex hi
  simp only [List.getElem?_map, hx, Option.map_some, Option.some.injEq] at hx'
  subst hx'
  have hml : n < l := by have := get_lt hm; have := HW.len; omega
  obtain ⟨a4, ha4, hr4⟩ := (HW.chg GD.f.chg).get n m hm
  refine ⟨_, (GD.bi.cell 0).trans rfl, _, _, _, (GD.f.P.cell 0).trans rfl, bcF (decide_eq_false (by omega)) ⟨some a3, _, _, (GD.f.P.cell 0).trans (by rw [ha3]; rfl), _, (GD.bi.cell 0).trans rfl, onPtr_mk ⟨by omega, by omega, (n : Int), reads_one' hr3, bcF (by simp)
    ⟨_, _, _, _, _, _, _, _, BD.reads0, some a4, _, _, (GD.f.L.cell 0).trans (by rw [ha4]; rfl), some a3, _, _, (GD.f.P.cell 0).trans (by rw [ha3]; rfl), _, (GD.bi.cell 0).trans rfl, onPtr_mk ⟨by omega, by omega, (n : Int), reads_one' hr3, onPtr_mk ⟨by omega, by omega, m.kind, m.key, m.val, m.err, m.hit, m.life, m.frm, m.to, hr4, bcF (by simp) ⟨_, (GD.bi.cell 0).trans rfl, GD.bi.canStore (by simp), fun w7 e7 => ?_⟩⟩⟩⟩⟩⟩⟩
  rw [wrapS (x := (i : Int) + 1) (by omega) (by omega)] at e7
  obtain ⟨G7, c7⟩ := GD.set (j := i + 1) e7
  have r7 := rD.chg c7 (by omega)
  have N7 := ND.trans (c7.mono fun k _ hk => (show N ≤ k ∧ k < dm + 2 by omega))
  have norm : endQ (dm + 1) (fun b w3 => Chg (fun k => N ≤ k ∧ k < dm + 2) w w3 ∧
      (b = true → G9 W w3 st bl bs br pb q l c q3 c3 us g rd ib (i + 1) mk dm ∧ RecOk w3 (dm + 1) rc .ready none) ∧
      (b = false → ∃ j : Nat, (rd = 0 ∧ (j : Int) = st) ∧ G9 W w3 st bl bs br pb q l c q3 c3 us g rd ib j mk dm ∧ RecOk w3 (dm + 1) rc .done (some (.exit 6)))) .normal w7 :=
    r7.normal fun w9 r9 c9 => ⟨N7.trans (c9.mono fun k _ hk => by omega), fun _ => ⟨G7.step c9 (fun k hk => by omega), r9⟩, fun h => by (cases h)⟩
  refine onPtr_mk ⟨_, (G7.bg.cell 0).trans rfl, bc (fun h0 => ⟨_, (G7.bi.cell 0).trans rfl, _, (G7.f.S.cell 0).trans rfl, bc (fun hst => ?_) (fun _ => norm)⟩) (fun _ => norm)⟩
  refine r7.exit fun w9 r9 c9 => ⟨N7.trans (c9.mono fun k _ hk => by omega), fun h => by (cases h), fun _ => ⟨i + 1, ⟨?_, ?_⟩, G7.step c9 (fun k hk => by omega), r9⟩⟩
  · have := eq_of_beq h0; omega
  · exact eq_of_beq hst
end
end Go.Proofs.YtjfafkgjcgbgfaaDoor
