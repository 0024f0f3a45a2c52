import Derived.Test.YtglidaifbpjpgaaDoorStZ
set_option maxRecDepth 20000
namespace Go.Proofs.YtglidaifbpjpgaaDoor
namespace Mo
open Go Go.Vc Go.RowKit
theorem bpart {w : World} {b : Nat} {t : TypeId} {cs : Array Value} (h : Blk w b t cs) {pre vs post : List Value} (e : cs.toList = pre ++ (vs ++ post)) {n : Nat} (hn : n = pre.length) : reads w ((⟨b, 0, none⟩ : Addr).add n) vs := fun j v hj => by
  subst hn
  rw [Addr.add_add, h.cell0, ← Array.getElem?_toList, e, List.getElem?_append_right (by omega), show pre.length + j - pre.length = j by omega, List.getElem?_append_left (get_lt hj)]
  exact hj
theorem bpart0 {w : World} {b : Nat} {t : TypeId} {cs : Array Value} (h : Blk w b t cs) {vs post : List Value} (e : cs.toList = vs ++ post) : reads w (⟨b, 0, none⟩ : Addr) vs := by
  have := bpart h (pre := []) (vs := vs) (post := post) (n := 0) e rfl
  rwa [add_zero'] at this
def kindS (m : Mv) (cs : List Int) : List Int := if m.kind = 1 then getS m cs else if m.kind = 2 then putS m cs else if m.kind = 3 then inc 5 cs else if m.kind = 4 then inc 6 cs else inc 7 cs
def stp (cs : List Int) (m : Mv) : List Int := if m.to < 0 then inc 9 cs else if m.err = 0 then kindS m cs else if m.err = 191 ∧ m.kind = 2 then inc 4 cs else inc 8 cs
def zeros : List Int := List.replicate 15 0
def fo (ms : List Mv) : List Int := ms.foldl stp zeros
theorem fo_next {ms : List Mv} {n : Nat} {m : Mv} (h : ms[n]? = some m) : fo (ms.take (n + 1)) = stp (fo (ms.take n)) m := by
  unfold fo
  rw [List.take_add_one, h]
  simp
def fin (ms : List Mv) (ds : List Dv) (page : Int) : List Int := match ds[ds.length - 1]? with
  | none => fo ms
  | some d => dev d page (fo ms)
/-- what the devices of the lives did, to be read -/
structure TD (w : World) (q : Option Addr) (l : Nat) (ds : List Dv) : Prop where
  len : ds.length = l
  get : ∀ i (d : Dv), ds[i]? = some d → ∃ a qu lu cu, q = some a ∧ reads w ((a.add (i * 18)).add 12) [.int .i64 d.c1, .int .i64 d.prog, .int .i64 d.er, .int .i64 d.c4, .int .i64 d.c5, .slice qu lu cu] ∧ RE En.int w qu lu d.wear ∧ lu ≤ 1048576
theorem TD.chg {w w' : World} {q : Option Addr} {l : Nat} {ds : List Dv} (h : TD w q l ds) (k : Chg none_ w w') : TD w' q l ds :=
  ⟨h.len, fun i d hi => by
    obtain ⟨a, qu, lu, cu, h1, h2, h3, h4⟩ := h.get i d hi
    exact ⟨a, qu, lu, cu, h1, k.readsN h2, h3.chg k, h4⟩⟩
/-- what Of tells -/
def OfR (s : Bool) (kp : Int → Bool) (css : List (List (List Cl))) (ts : List Tl) (ds : List Dv) (page : Int) (w : World) (v : Value) (w' : World) : Prop := Chg none_ w w' ∧
  ∃ cs e, v = .tuple #[.agg (cs.map (Value.int .i64)).toArray, .int .i64 e] ∧ cs.length = 15 ∧ ((e = 0 ∧ ∃ out, Tells s kp css ts out ∧ cs = fin out ds page) ∨ (e = 240 ∧ cs = zeros ∧ ∀ o, ¬ Tells s kp css ts o))
theorem Tells.kinds {s : Bool} {kp : Int → Bool} {css : List (List (List Cl))} {ts : List Tl} {out : List Mv} (h : Tells s kp css ts out) {i : Nat} {m : Mv} (hm : out[i]? = some m) : 1 ≤ m.kind ∧ m.kind ≤ 5 := by
  have := oks_alone h.2.2.alive.2 m (List.mem_of_getElem? hm)
  exact ⟨this.k1, this.k2⟩
section
variable {w : World} {q1 q2 q3 : Option Addr} {l1 c1 l2 c2 l3 c3 : Nat} {css : List (List (List Cl))} {ts : List Tl} {ds : List Dv} {i1 i2 i3 i4 i5 i6 i7 i8 i9 i10 i11 i12 i13 i14 i15 i16 : Int}
theorem of33 (hC : SL w q1 l1 css) (hT : TL w q2 l2 ts) (hD : TD w q2 l2 ds) (ht : tot ts ≤ 1048576) (hl2 : l2 ≤ 1048576) :
    Calls Tryd.prog 33 #[.agg #[.int .i64 i1, .int .i64 i2, .int .i64 i3, .int .i64 i4, .int .i64 i5, .int .i64 i6, .int .i64 i7, .int .i64 i8, .int .i64 i9, .int .i64 i10, .int .i64 i11, .int .i64 i12, .int .i64 i13, .int .i64 i14, .int .i64 i15, .int .i64 i16, .slice q1 l1 c1], .agg #[.slice q2 l2 c2, .slice q3 l3 c3]] w (Ret (OfR true kpP css ts ds i1 w)) := by
  have eds := hD.len
  refine f33.calls _ _ _ _ _ _ _ _ _ _ _ _ _ _ _ _ _ _ _ _ _ _ _ _ _ ?_
  unfold f33.wp
  refine newBox fun w1 B1 k1 s1 => newBox fun w2 B2 k2 s2 => newBox fun w3 B3 k3 s3 => ?_
  have A1 := (k2.trans k3).blk B1 (fun x => x)
  have A2 := k3.blk B2 (fun x => x)
  have k03 := k1.trans (k2.trans k3)
  refine ⟨i1, i2, i3, i4, i5, i6, i7, i8, i9, i10, i11, i12, i13, i14, i15, i16, q1, l1, c1, A1.reads0, q2, l2, c2, q3, l3, c3, A2.reads0, Calls.use (moves8 (hC.chg k03) (hT.chg k03) ht hl2) ?_⟩
  intro v w4 h4
  obtain ⟨k4, q4, l4, c4, out, e, rfl, S4, hl4, ho⟩ := h4.uni
  have B3' := k4.blk B3 (fun x => x)
  have k04 := k03.trans k4
  refine ⟨q4, l4, c4, e, rfl, bc (fun g => B3'.store rfl rfl fun w5 B5 k5 s5 => ⟨_, _, _, _, _, _, _, _, _, _, _, _, _, _, _, B5.reads0, ?_⟩) fun g => ?_⟩
  · refine ⟨k04.up k5 fun k hk => by have := k1.size; have := k2.size; omega, zeros, e, rfl, rfl, ?_⟩
    rcases ho with ⟨rfl, _⟩ | ⟨rfl, _, hn⟩
    · simp at g
    · exact .inr ⟨rfl, rfl, hn⟩
  have he : e = 0 := by simpa using g
  subst he
  have hT0 : Tells true kpP css ts out := by rcases ho with ⟨_, h⟩ | ⟨h, _⟩; exact h; cases h
  refine newBox fun w6 B6 k6 s6 => Calls.use fields47 ?_
  rintro _ w7 ⟨rfl, M7, k7⟩
  have hC6 : Cb w6 w4.heap.size zeros := ⟨B6, rfl⟩
  have hlo := S4.len
  have k47 : Chg none_ w4 w7 := k6.trans k7
  refine ⟨_, rfl, fun x w8 => ∃ i : Nat, x = (i : Int) ∧ i ≤ l4 ∧ Cb w8 w4.heap.size (fo (out.take i)) ∧ MpF w8 w6.heap.size 5 five ∧ Chg none_ w4 w8, fun x _ => l4 - x.toNat, ⟨0, rfl, by omega, hC6.chg k7 (fun x => x), M7, k47⟩, ?_⟩
  rintro _ w8 ⟨i, rfl, hi, C8, M8, k8⟩
  have k08 := k04.trans k8
  have z4 := k04.size
  have zs1 := k1.size
  have zs2 := k2.size
  have zs3 := k3.size
  have zs4 := k4.size
  have up : ∀ {a b : World}, Chg none_ w4 a → Chg (fun k => k = w4.heap.size) a b → Chg none_ w4 b := fun h h' => h.up h' fun k hk => by omega
  refine bc (fun g1 => ?_) fun g1 => ?_
  · have g1 : i < l4 := by simp at g1; omega
    obtain ⟨a, m, ha, hm, hr⟩ := (S4.chgN k8).re.ex g1
    subst ha
    have hnx := fo_next hm
    obtain ⟨hk1, hk5⟩ := hT0.kinds hm
    rw [wrapN (by omega)]
    refine onPtr_mk ⟨by omega, by omega, m.kind, m.key, m.val, m.err, m.hit, m.life, m.frm, m.to, hr, boxed rfl rfl fun w10 B10 k10 s10 => ?_⟩
    have C10 := C8.chg k10 (fun x => x)
    have M10 := M8.chg k10 (fun x => x)
    have k410 := k8.trans k10
    have ne : ¬ w6.heap.size = w4.heap.size := by omega
    have ne8 : ¬ w8.heap.size = w4.heap.size := by have := C8.blk.lt; omega
    have fin : ∀ w', Cb w' w4.heap.size (stp (fo (out.take i)) m) → Chg (fun k => k = w4.heap.size) w10 w' → (∃ j : Nat, ((i + 1 : Nat) : Int) = (j : Int) ∧ j ≤ l4 ∧ Cb w' w4.heap.size (fo (out.take j)) ∧ MpF w' w6.heap.size 5 five ∧ Chg none_ w4 w') ∧ l4 - ((i + 1 : Nat) : Int).toNat < l4 - (i : Int).toNat := fun w' hc k => ⟨⟨i + 1, rfl, by omega, by rw [hnx]; exact hc, M10.chg k ne, up k410 k⟩, by simp only [Int.toNat_natCast]; omega⟩
    refine ⟨m.to, (B10.cell0 7).trans rfl, bc (fun g2 => ⟨_, C10.cell (i := 9) (by omega), C10.can (by omega), fun w11 e11 => ?_⟩) fun g2 => ⟨m.err, (B10.cell0 3).trans rfl, bc (fun g3 => ⟨m.kind, (B10.cell 0).trans rfl, ?_⟩) fun g3 => ?_⟩⟩
    · obtain ⟨h11, k11⟩ := C10.put e11
      refine fin _ ?_ k11
      unfold stp
      rw [if_pos (by simpa using g2)]; exact h11
    · have e1 : stp (fo (out.take i)) m = kindS m (fo (out.take i)) := by
        unfold stp
        rw [if_neg (by simpa using g2), if_pos (by simpa using g3)]
      rw [e1] at fin
      have hwf : (Lit.int .i64 m.kind).wf = true := by simp [Lit.wf, IntKind.min, IntKind.max, IntKind.signed, IntKind.bits]; omega
      have look : ∀ f, five m.kind = some f → (Instr.lookup 106 (.map (some w6.heap.size)) (.int .i64 m.kind) false).run Tryd.prog w10 = .ok (vF f) w10 := fun f hf => M10.look hwf hf
      by_cases y1 : m.kind = 1
      · refine .inl ⟨w10, look 57 (by rw [y1]; rfl), m.kind, m.key, m.val, m.err, m.hit, m.life, m.frm, m.to, B10.reads0, Calls.use (c57 C10) ?_⟩
        rintro _ w13 ⟨rfl, h13, k13⟩
        exact ⟨rfl, fin _ (by unfold kindS; rw [if_pos y1]; exact h13) k13⟩
      by_cases y2 : m.kind = 2
      · refine .inr (.inl ⟨w10, look 58 (by rw [y2]; rfl), m.kind, m.key, m.val, m.err, m.hit, m.life, m.frm, m.to, B10.reads0, Calls.use (c58 C10) ?_⟩)
        rintro _ w13 ⟨rfl, h13, k13⟩
        exact ⟨rfl, fin _ (by unfold kindS; rw [if_neg y1, if_pos y2]; exact h13) k13⟩
      by_cases y3 : m.kind = 3
      · refine .inr (.inr (.inl ⟨w10, look 59 (by rw [y3]; rfl), m.kind, m.key, m.val, m.err, m.hit, m.life, m.frm, m.to, B10.reads0, Calls.use (c59 C10) ?_⟩))
        rintro _ w13 ⟨rfl, h13, k13⟩
        exact ⟨rfl, fin _ (by unfold kindS; rw [if_neg y1, if_neg y2, if_pos y3]; exact h13) k13⟩
      by_cases y4 : m.kind = 4
      · refine .inr (.inr (.inr (.inl ⟨w10, look 60 (by rw [y4]; rfl), m.kind, m.key, m.val, m.err, m.hit, m.life, m.frm, m.to, B10.reads0, Calls.use (c60 C10) ?_⟩)))
        rintro _ w13 ⟨rfl, h13, k13⟩
        exact ⟨rfl, fin _ (by unfold kindS; rw [if_neg y1, if_neg y2, if_neg y3, if_pos y4]; exact h13) k13⟩
      · have y5 : m.kind = 5 := by omega
        refine .inr (.inr (.inr (.inr (.inl ⟨w10, look 61 (by rw [y5]; rfl), m.kind, m.key, m.val, m.err, m.hit, m.life, m.frm, m.to, B10.reads0, Calls.use (c61 C10) ?_⟩))))
        rintro _ w13 ⟨rfl, h13, k13⟩
        exact ⟨rfl, fin _ (by unfold kindS; rw [if_neg y1, if_neg y2, if_neg y3, if_neg y4]; exact h13) k13⟩
    · have e1 : stp (fo (out.take i)) m = if m.err = 191 ∧ m.kind = 2 then inc 4 (fo (out.take i)) else inc 8 (fo (out.take i)) := by
        unfold stp
        rw [if_neg (by simpa using g2), if_neg (by simpa using g3)]
      rw [e1] at fin
      refine ⟨fun x w18 => w10 = w18 ∧ (x = true ↔ m.err = 191 ∧ m.kind = 2), ?_, m.err, (B10.cell0 3).trans rfl, bc (fun g4 => ⟨m.kind, (B10.cell 0).trans rfl, rfl, ?_⟩) fun g4 => ⟨rfl, ?_⟩⟩
      · rintro x _ ⟨rfl, hx⟩
        refine bc (fun g4 => ⟨_, C10.cell (i := 4) (by omega), C10.can (by omega), fun w19 e19 => ?_⟩) fun g4 => ⟨_, C10.cell (i := 8) (by omega), C10.can (by omega), fun w20 e20 => ?_⟩
        · obtain ⟨h19, k19⟩ := C10.put e19
          exact fin _ (by rw [if_pos (hx.1 g4)]; exact h19) k19
        · obtain ⟨h20, k20⟩ := C10.put e20
          exact fin _ (by rw [if_neg (fun hh => by rw [hx.2 hh] at g4; cases g4)]; exact h20) k20
      · simp at g4; simp [g4]
      · simp at g4; simp [g4]
  · have hie : i = l4 := by simp at g1; omega
    subst hie
    rw [← hlo, List.take_length] at C8
    have A2' := (k4.trans k8).blk A2 (fun x => x)
    have A1' := (k4.trans k8).blk A1 (fun x => x)
    have B38 := k8.blk B3' (fun x => x)
    refine ⟨q2, l2, c2, (A2'.cell 0).trans rfl, bc (fun g2 => ?_) fun g2 => ?_⟩
    · have hl0 : 0 < l2 := by simp at g2; omega
      obtain ⟨d, hd⟩ := get_ex (l := ds) (i := l2 - 1) (by omega)
      obtain ⟨a, qu, lu, cu, ha, hr0, hw, hlu⟩ := hD.get _ d hd
      have hr := k08.drew.readsN hr0
      have hwp : IntKind.wrap .i64 ((l2 : Int) - 1) = ((l2 - 1 : Nat) : Int) := by rw [wrapS (by omega) (by omega)]; omega
      rw [hwp]
      refine ⟨q2, l2, c2, (A2'.drew.cell 0).trans rfl, ?_⟩
      rw [ha]
      refine onPtr_mk ⟨by omega, by omega, d.c1, d.prog, d.er, d.c4, d.c5, qu, lu, cu, hr, i1, (A1'.drew.cell 0).trans rfl, Calls.use (device48 (w0 := w) C8.drew k08.drew (by omega) hw hlu) ?_⟩
      · rintro _ w21 ⟨rfl, C21, k21⟩
        have B321 := k21.blk B38.drew (by omega)
        have hf : fin out ds i1 = dev d i1 (fo out) := by unfold fin; rw [eds, hd]
        rw [← hf] at C21
        have hlen := C21.len
        generalize fin out ds i1 = cs at C21 hf hlen
        obtain ⟨a0, a1, a2, a3, a4, a5, a6, a7, a8, a9, a10, a11, a12, a13, a14, rfl⟩ := fifteen hlen
        refine ⟨rfl, _, _, _, _, _, _, _, _, _, _, _, _, _, _, _, C21.blk.reads0, B321.store rfl rfl fun w22 B22 k22 s22 => ⟨_, _, _, _, _, _, _, _, _, _, _, _, _, _, _, B22.reads0, (((k08.drew).up k21 fun k hk => by omega).up k22 fun k hk => by omega), [a0, a1, a2, a3, a4, a5, a6, a7, a8, a9, a10, a11, a12, a13, a14], 0, rfl, rfl, .inl ⟨rfl, out, hT0, ?_⟩⟩⟩
        unfold fin; rw [eds, hd]; exact hf.symm ▸ rfl
    · have hl0 : l2 = 0 := by simp at g2; omega
      have hf : fin out ds i1 = fo out := by unfold fin; rw [List.getElem?_eq_none (by omega)]
      rw [← hf] at C8
      have hlen := C8.len
      generalize hcs : fin out ds i1 = cs at C8 hlen
      obtain ⟨a0, a1, a2, a3, a4, a5, a6, a7, a8, a9, a10, a11, a12, a13, a14, rfl⟩ := fifteen hlen
      exact ⟨_, _, _, _, _, _, _, _, _, _, _, _, _, _, _, C8.blk.reads0, B38.store rfl rfl fun w22 B22 k22 s22 => ⟨_, _, _, _, _, _, _, _, _, _, _, _, _, _, _, B22.reads0, k08.up k22 fun k hk => by omega, [a0, a1, a2, a3, a4, a5, a6, a7, a8, a9, a10, a11, a12, a13, a14], 0, rfl, rfl, .inl ⟨rfl, out, hT0, hcs.symm⟩⟩⟩
end
end Mo
end Go.Proofs.YtglidaifbpjpgaaDoor
