import Derived.Test.YtjfafkgjcgbgfaaDoorHjI
set_option maxRecDepth 20000
namespace Go.Proofs.YtjfafkgjcgbgfaaDoor
open Go Go.Vc Go.RowKit
def Mv.setTo (m : Mv) (x : Int) : Mv := ⟨m.kind, m.key, m.val, m.err, m.hit, m.life, m.frm, x⟩
/-- the words of a move's line -/
structure LineIs (T : World → Prop) (m : Mv) (ws : List ByteArray) : Prop where
  ex : ∃ sl sf st wk wv we, ws = sl :: sf :: st :: kindW m.kind.toNat :: (wk ++ (wv ++ we)) ∧ Num T sl m.life ∧ Num T sf m.frm ∧ ((m.to = -1 ∧ st = dashW) ∨ (0 ≤ m.to ∧ Num T st m.to)) ∧
    ((m.kind ≤ 3 ∧ ∃ s, wk = [s] ∧ IsHex s m.key.data.toList ∧ m.key.data.toList.length < 1000000000) ∨ (3 < m.kind ∧ wk = [] ∧ m.key = e0)) ∧
    ((m.kind = 2 ∧ ∃ s, wv = [s] ∧ IsHex s m.val.data.toList ∧ m.val.data.toList.length < 1000000000) ∨ (m.kind ≠ 2 ∧ wv = [] ∧ (m.hit = false → m.val = e0))) ∧
    ((0 ≤ m.to ∧ EndIs T m we) ∨ (m.to = -1 ∧ we = [] ∧ m.err = 0 ∧ m.hit = false))
  k1 : 1 ≤ m.kind
  k2 : m.kind ≤ 5
theorem Num.ne {T : World → Prop} {s : ByteArray} {n : Int} (h : Num T s n) : s ≠ dashW := by
  intro e
  have := h.is
  rw [e] at this
  simp [Lib.atoi, Lib.decNat] at this
def SplitIs (s : ByteArray) (ws : List ByteArray) : Prop := s.size < 4294967281 ∧ Lib.splitB ⟨#[32]⟩ 0 (Lib.countB s ⟨#[32]⟩) s = ws ∧ Lib.countB s ⟨#[32]⟩ + 1 = ws.length
theorem strs_flat : ∀ ws : List ByteArray, En.str.flat ws = ws.map Value.string
  | [] => rfl
  | x :: xs => by
    have := strs_flat xs
    simp only [En.flat] at this ⊢
    rw [List.flatMap_cons, this]; rfl
theorem strs {w : World} {b : Nat} {ws : List ByteArray} (h : Blk w b 9 (ws.map Value.string).toArray) : RE En.str w (some ⟨b, 0, none⟩) ws.length ws := by
  refine RE.of_flat rfl fun j v hv => ?_
  rw [strs_flat] at hv
  rw [h.cell0]
  simpa using hv
theorem move37 {base : Nat} {T : World → Prop} (hT : Stays base T) (hTS : ∀ w, T w → w.ShapedOpen Tryd.prog) {w : World} {s : ByteArray} {ws : List ByteArray} {m : Mv} (hs : SplitIs s ws) (hl : LineIs T m ws) (hb : base ≤ w.heap.size) (t : T w) :
    Calls Tryd.prog 37 #[.string s] w (Ret fun v w' => v = .tuple #[mvV m, .bool true] ∧ Chg none_ w w') := by
  obtain ⟨⟨sl, sf, st, wk, wv, we, hws, nl, nf, nt, hk, hv, he⟩, hk1, hk2⟩ := hl
  obtain ⟨hs1, hs2, hs3⟩ := hs
  have st' : ∀ {w' : World}, Chg none_ w w' → T w' := fun k => hT k (fun _ h => h.elim) t
  refine f37.calls _ ?_
  unfold f37.wp
  refine newBox fun w1 B1 k1 s1 => (Tryd.strings_Split_shaped s ⟨#[32]⟩ w1 (hTS _ (st' k1)) hs1 (by decide)).mono ?_
  rintro _ _ ⟨rfl, rfl⟩
  rw [hs2, hs3]
  refine ⟨_, _, _, rfl, ?_⟩
  obtain ⟨w2, hw2⟩ : ∃ w2, w2 = w1.alloc (.cells (ws.map Value.string).toArray 9) := ⟨_, rfl⟩
  rw [← hw2]
  have B2 := new_blk hw2
  have k2 : Chg none_ w1 w2 := (Chg.refl _ _).new' hw2
  have s2 := new_size hw2
  refine newBox fun w3 B3 k3 s3 => ?_
  have r3 : Rd w3 w2.heap.size w1.heap.size ws := ⟨⟨_, _, _, B3, strs (k3.blk B2 (fun x => x)), Nat.le_refl _, fun a ha => by cases ha; rfl⟩, by omega⟩
  have k13 := k2.trans k3
  rw [hws] at r3
  refine Calls.use (number54 hT r3 nl (by omega) (st' (k1.trans k13))) ?_
  rintro _ w4 ⟨rfl, r4, k4, t4⟩
  refine ⟨_, rfl, Calls.use (number54 hT r4 nf (by omega) t4) ?_⟩
  rintro _ w5 ⟨rfl, r5, k5, t5⟩
  have k15 : Chg none_ w1 w5 := (k13.up k4 fun k hk => by omega).up k5 fun k hk => by omega
  have z5 := k5.size
  have z4 := k4.size
  refine ⟨_, rfl, boxed rfl rfl fun w7 B7 k7 s7 => ?_⟩
  have M7 : RM w7 w2.heap.size w1.heap.size w5.heap.size (st :: kindW m.kind.toNat :: (wk ++ (wv ++ we))) ⟨0, e0, e0, 0, false, m.life, m.frm, -1⟩ := ⟨r5.chgN k7, B7, by omega, by omega⟩
  have k17 := k15.trans k7
  have up2 : ∀ {a b : World}, Chg none_ w1 a → Chg (two w2.heap.size w5.heap.size) a b → Chg none_ w1 b := fun h h' => h.up h' fun k hk => by rcases hk with hk | hk <;> omega
  have upr : ∀ {a b : World}, Chg none_ w1 a → Chg (fun k => k = w2.heap.size) a b → Chg none_ w1 b := fun h h' => h.up h' fun k hk => by omega
  have upm : ∀ {a b : World}, Chg none_ w1 a → Chg (fun k => k = w5.heap.size) a b → Chg none_ w1 b := fun h h' => h.up h' fun k hk => by omega
  have ek : ((m.kind.toNat : Nat) : Int) = m.kind := by omega
  refine ⟨fun w8 => Chg none_ w1 w8 ∧ RM w8 w2.heap.size w1.heap.size w5.heap.size (kindW m.kind.toNat :: (wk ++ (wv ++ we))) ⟨0, e0, e0, 0, false, m.life, m.frm, m.to⟩, ?_, fun x w9 => w7 = w9 ∧ x = decide (m.to = -1), ?_, ?_⟩
  · rintro w8 ⟨k8, M8⟩
    refine Calls.use (kind56 M8.rd (by omega) (by omega)) ?_
    rintro _ w13 ⟨rfl, r13, k13'⟩
    have M13 := M8.setR r13 k13'
    rw [ek]
    refine ⟨_, rfl, can0 M13.mv, fun w14 e14 => ?_⟩
    have P14 := put0 M13.mv e14
    have M14 := M13.setM P14
    have k114 := upm (upr k8 k13') P14.2
    refine ⟨fun w15 => Chg none_ w1 w15 ∧ RM w15 w2.heap.size w1.heap.size w5.heap.size (wv ++ we) ⟨m.kind, m.key, e0, 0, false, m.life, m.frm, m.to⟩, ?_, _, (M14.mv.cell 0).trans rfl, Calls.use (ofKey38 m.kind) ?_⟩
    · rintro w15 ⟨k15', M15⟩
      refine ⟨fun w19 => Chg none_ w1 w19 ∧ RM w19 w2.heap.size w1.heap.size w5.heap.size we ⟨m.kind, m.key, if m.kind = 2 then m.val else e0, 0, false, m.life, m.frm, m.to⟩, ?_, _, (M15.mv.cell 0).trans rfl, ?_⟩
      · rintro w19 ⟨k19, M19⟩
        refine ⟨fun w22 => Chg none_ w1 w22 ∧ RM w22 w2.heap.size w1.heap.size w5.heap.size [] m, ?_, _, (M19.mv.cell0 7).trans rfl, ?_⟩
        · rintro w22 ⟨k22, M22⟩
          have B22 := (k22.blk B1 (fun x => x)).drew
          have M22d := M22.chg (Chg.refl _ _).drew
          obtain ⟨q, l, c, Br, Hr, _, _⟩ := M22d.rd.ex
          have hl0 := Hr.len
          simp at hl0
          subst hl0
          refine ⟨fun p => p.block ≠ w.heap.size, _, _, _, _, _, _, _, _, fun j _ => by show (Addr.add _ _).block ≠ w.heap.size; rw [add_block]; show w5.heap.size ≠ _; omega, M22d.mv.reads0, _, by show (Addr.add _ _).block ≠ w.heap.size; rw [add_block]; show w2.heap.size ≠ _; omega, (Br.cell0 1).trans rfl, bcT rfl ⟨q, 0, c, by show w2.heap.size ≠ _; omega, (Br.cell 0).trans rfl, ?_⟩⟩
          refine B22.store rfl rfl fun w24 B24 k24 _ => ⟨fun p hp => World.cell?_of_block ?_, _, _, _, _, _, _, _, _, B24.reads0, rfl, ?_⟩
          · by_cases hlt : p.block < w22.drew.heap.size
            · exact k24.block _ hlt hp
            · rw [Array.getElem?_eq_none (by omega), Array.getElem?_eq_none (by omega)]
          · exact ((k1.trans k22).drew).up k24 fun k hk => by omega
        · rcases he with ⟨g, he⟩ | ⟨g, rfl, g1, g2⟩
          · have hv' : m.hit = false → (if m.kind = 2 then m.val else e0) = m.val := fun hh => by
              rcases hv with ⟨h1, _⟩ | ⟨h1, _, h2⟩
              · rw [if_pos h1]
              · rw [if_neg h1, h2 hh]
            refine bcT (by simpa using g) (Calls.use (end58 hT (m := m) M19 he rfl rfl rfl hv' (by omega) (st' (k1.trans k19))) ?_)
            · rintro _ w23 ⟨rfl, M23, k23⟩
              exact ⟨rfl, up2 k19 k23, M23⟩
          · refine bcF (by show decide (m.to ≥ 0) = false; rw [g]; rfl) ⟨k19, ?_⟩
            have hv' : (if m.kind = 2 then m.val else e0) = m.val := by
              rcases hv with ⟨h1, _⟩ | ⟨h1, _, h2⟩
              · rw [if_pos h1]
              · rw [if_neg h1, h2 g2]
            have e : (⟨m.kind, m.key, if m.kind = 2 then m.val else e0, 0, false, m.life, m.frm, m.to⟩ : Mv) = m := by
              rw [hv', ← g1, ← g2]
            rw [e] at M19
            exact M19
      · rcases hv with ⟨g, sv, rfl, hx, hxl⟩ | ⟨g, rfl, h2⟩
        · refine bcT (by simpa using g) (Calls.use (bytes57 M15.rd hx hxl) ?_)
          rintro _ w20 ⟨rfl, r20, k20⟩
          have M20 := M15.setR r20 k20
          rw [ba_back]
          refine ⟨_, rfl, can2 M20.mv, fun w21 e21 => ?_⟩
          have P21 := put2 M20.mv e21
          have M21 := M20.setM P21
          refine ⟨upm (upr k15' k20) P21.2, ?_⟩
          rw [if_pos g]; exact M21
        · refine bcF (by simpa using g) ⟨k15', ?_⟩
          rw [if_neg g]
          exact M15
    · rintro _ _ ⟨b, rfl, hb', rfl⟩
      refine ⟨b, rfl, ?_⟩
      rcases hk with ⟨g, sk, rfl, hx, hxl⟩ | ⟨g, rfl, h2⟩
      · refine bcT (by rw [hb']; omega) (Calls.use (bytes57 M14.rd hx hxl) ?_)
        rintro _ w17 ⟨rfl, r17, k17'⟩
        have M17 := M14.setR r17 k17'
        rw [ba_back]
        refine ⟨_, rfl, can1 M17.mv, fun w18 e18 => ?_⟩
        have P18 := put1 M17.mv e18
        exact ⟨upm (upr k114 k17') P18.2, M17.setM P18⟩
      · refine bcF (by cases b with | false => rfl | true => have := hb'.1 rfl; omega) ⟨k114, ?_⟩
        rw [h2]; exact M14
  · rintro x _ ⟨rfl, rfl⟩
    rcases nt with ⟨g, rfl⟩ | ⟨g, hn⟩
    · refine bcT (by simpa using g) (Calls.use (word55 M7.rd) ?_)
      rintro _ w10 ⟨rfl, r10, k10⟩
      refine ⟨_, rfl, upr k17 k10, ?_⟩
      have M10 := M7.setR r10 k10
      rw [g]; exact M10
    · refine bcF (by simp; omega) (Calls.use (number54 hT M7.rd hn (by omega) (st' (k1.trans k17))) ?_)
      rintro _ w11 ⟨rfl, r11, k11, t11⟩
      have M11 := M7.setR r11 k11
      refine ⟨_, rfl, can7 M11.mv, fun w12 e12 => ?_⟩
      have P12 := put7 M11.mv e12
      exact ⟨upm (upr k17 k11) P12.2, M11.setM P12⟩
  · obtain ⟨q, l, c, Br, Hr, hc, hq⟩ := M7.rd.ex
    have hl0 := Hr.len
    simp at hl0
    obtain ⟨a, s', rfl, hs', hr'⟩ := Hr.ex (i := 0) (by omega)
    simp at hs'
    subst hs'
    have hcell := reads_one' hr'
    refine ⟨_, l, c, (Br.cell 0).trans rfl, bcT (by simp; omega) ⟨_, l, c, (Br.cell 0).trans rfl, onPtr_mk ⟨by omega, by omega, st, by simpa [En.str] using hcell, rfl, ?_⟩⟩⟩
    rcases nt with ⟨g, rfl⟩ | ⟨g, hn⟩
    · simp [g]
    · rw [show decide (m.to = -1) = false by simp; omega]
      have := hn.ne
      rw [ByteArray.toList_eq, ByteArray.toList_eq]
      simp
      intro e
      apply this
      rw [← ba_back st]
      show (⟨st.data.toList.toArray⟩ : ByteArray) = _
      rw [e]
end Go.Proofs.YtjfafkgjcgbgfaaDoor
