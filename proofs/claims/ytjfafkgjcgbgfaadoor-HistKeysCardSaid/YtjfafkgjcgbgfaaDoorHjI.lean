import Derived.Test.YtjfafkgjcgbgfaaDoorHjH
set_option maxRecDepth 20000
namespace Go.Proofs.YtjfafkgjcgbgfaaDoor
open Go Go.Vc Go.RowKit
abbrev errW : ByteArray := ⟨#[101, 114, 114]⟩
abbrev okW : ByteArray := ⟨#[111, 107]⟩
abbrev missW : ByteArray := ⟨#[109, 105, 115, 115]⟩
abbrev hitW : ByteArray := ⟨#[104, 105, 116]⟩
abbrev dashW : ByteArray := ⟨#[45]⟩
theorem ba_back (s : ByteArray) : (⟨s.data.toList.toArray⟩ : ByteArray) = s := by cases s; simp
inductive EndIs (T : World → Prop) (m : Mv) : List ByteArray → Prop where
  | err (s : ByteArray) (h : Num T s m.err) (h0 : m.err ≠ 0) (h1 : m.hit = false) : EndIs T m [errW, s]
  | ok (h : m.kind ≠ 1) (h0 : m.err = 0) (h1 : m.hit = false) : EndIs T m [okW]
  | miss (h : m.kind = 1) (h0 : m.err = 0) (h1 : m.hit = false) : EndIs T m [missW]
  | hit (s : ByteArray) (h : m.kind = 1) (h0 : m.err = 0) (h1 : m.hit = true) (hs : IsHex s m.val.data.toList) (hl : m.val.data.toList.length < 1000000000) : EndIs T m [hitW, s]
/-- a reader and a move that do not touch -/
structure RM (w : World) (r wb b : Nat) (ws : List ByteArray) (m : Mv) : Prop where
  rd : Rd w r wb ws
  mv : Blk w b 33 (mvC m)
  n1 : r ≠ b
  n2 : wb ≠ b
section
variable {w w' : World} {r wb b : Nat} {ws ws' : List ByteArray} {m m' : Mv}
theorem RM.chg (h : RM w r wb b ws m) (k : Chg none_ w w') : RM w' r wb b ws m := ⟨h.rd.chgN k, k.blk h.mv (fun x => x), h.n1, h.n2⟩
theorem RM.setM (h : RM w r wb b ws m) (B' : Blk w' b 33 (mvC m') ∧ Chg (fun k => k = b) w w') : RM w' r wb b ws m' := ⟨h.rd.chg B'.2 h.n1 h.n2, B'.1, h.n1, h.n2⟩
theorem RM.setR (h : RM w r wb b ws m) (h' : Rd w' r wb ws') (k : Chg (fun k => k = r) w w') : RM w' r wb b ws' m := ⟨h', k.blk h.mv (fun e => h.n1 e.symm), h.n1, h.n2⟩
def two (r b : Nat) : Nat → Prop := fun k => k = r ∨ k = b
theorem two1 {S : Nat → Prop} (h : Chg S w w') (hS : ∀ k, S k → k = r ∨ k = b) : Chg (two r b) w w' := h.mono fun k _ hk => hS k hk
end
theorem sne {a b : List UInt8} (h : a ≠ b) : ((⟨a.toArray⟩ : ByteArray).toList == (⟨b.toArray⟩ : ByteArray).toList) = false := by
  rw [ByteArray.toList_eq, ByteArray.toList_eq]; simpa using h
theorem end58 {base : Nat} {T : World → Prop} (hT : Stays base T) {w : World} {r wb b : Nat} {ws : List ByteArray} {m m0 : Mv} (h : RM w r wb b ws m0) (he : EndIs T m ws) (hm : m = { m0 with err := m.err, hit := m.hit, val := m.val }) (h0 : m0.err = 0) (h1 : m0.hit = false) (hv : m.hit = false → m0.val = m.val) (hb : base ≤ r) (t : T w) :
    Calls Tryd.prog 58 #[.pointer (some ⟨r, 0, none⟩), .pointer (some ⟨b, 0, none⟩)] w (Ret fun v w' => v = .tuple #[] ∧ RM w' r wb b [] m ∧ Chg (two r b) w w') := by
  have ek : m.kind = m0.kind := by rw [hm]
  refine f58.calls _ _ ?_
  unfold f58.wp
  cases he with
  | err s hs g0 g1 =>
    refine Calls.use (word55 h.rd) ?_
    rintro _ w1 ⟨rfl, r1, k1⟩
    have M1 := h.setR r1 k1
    have t1 := hT k1 (fun k hk => by omega) t
    refine ⟨_, rfl, bcT (by simp) (Calls.use (number54 hT r1 hs hb t1) ?_)⟩
    rintro _ w2 ⟨rfl, r2, k2, t2⟩
    have M2 := M1.setR r2 k2
    refine ⟨_, rfl, onPtr_mk ⟨can3 M2.mv, fun w3 e3 => ?_⟩⟩
    have P3 := put3 M2.mv e3
    have M3 := M2.setM P3
    obtain ⟨q, l, c, B3, H3, hc3, hq3⟩ := M3.rd.ex
    refine onPtr_mk ⟨false, (B3.cell0 1).trans rfl, bcF rfl (onPtr_mk ⟨m.err, (M3.mv.cell0 3).trans rfl, onPtr_mk ⟨B3.canStore0 (Nat.le_of_ble_eq_true rfl), fun w5 e5 => ?_⟩⟩)⟩
    rw [show (m.err == 0) = false by simpa using g0] at e5
    obtain ⟨B5, k5⟩ := B3.put e5
    have r5 : Rd w5 r wb [] := ⟨⟨q, l, c, B5, H3.chgS k5 (fun a ha => by rw [hq3 a ha]; exact M3.rd.ne), hc3, hq3⟩, M3.rd.ne⟩
    have M5 := M3.setR r5 k5
    have e : m = { m0 with err := m.err } := by rw [hm, ← hv g1, g1, ← h1]
    refine ⟨rfl, by rw [e]; exact M5, ?_⟩
    exact (((two1 k1 fun k hk => .inl hk).trans (two1 k2 fun k hk => .inl hk)).trans (two1 P3.2 fun k hk => .inr hk)).trans (two1 k5 fun k hk => .inl hk)
  | ok g g0 g1 =>
    refine Calls.use (word55 h.rd) ?_
    rintro _ w1 ⟨rfl, r1, k1⟩
    have M1 := h.setR r1 k1
    have e : m = m0 := by rw [hm, ← hv g1, g1, ← h1, g0, ← h0]
    refine ⟨_, rfl, bcF (sne (by decide)) ⟨fun x w6 => w1 = w6 ∧ x = true, ?_, fun x w7 => w1 = w7 ∧ x = true, ?_, bcT (by simp) (onPtr_mk ⟨_, (M1.mv.cell 0).trans rfl, rfl, by rw [← ek]; simpa using g⟩)⟩⟩
    · rintro _ _ ⟨rfl, rfl⟩
      exact bcT rfl ⟨rfl, by rw [e]; exact M1, two1 k1 fun k hk => .inl hk⟩
    · rintro _ _ ⟨rfl, rfl⟩
      exact bcT rfl ⟨rfl, rfl⟩
  | miss g g0 g1 =>
    refine Calls.use (word55 h.rd) ?_
    rintro _ w1 ⟨rfl, r1, k1⟩
    have M1 := h.setR r1 k1
    have e : m = m0 := by rw [hm, ← hv g1, g1, ← h1, g0, ← h0]
    refine ⟨_, rfl, bcF (sne (by decide)) ⟨fun x w6 => w1 = w6 ∧ x = true, ?_, fun x w7 => w1 = w7 ∧ x = false, ?_, bcF (sne (by decide)) ⟨rfl, rfl⟩⟩⟩
    · rintro _ _ ⟨rfl, rfl⟩
      exact bcT rfl ⟨rfl, by rw [e]; exact M1, two1 k1 fun k hk => .inl hk⟩
    · rintro _ _ ⟨rfl, rfl⟩
      exact bcF rfl (bcT (by simp) (onPtr_mk ⟨_, (M1.mv.cell 0).trans rfl, rfl, by rw [← ek]; simpa using g⟩))
  | hit s g g0 g1 hs hl =>
    refine Calls.use (word55 h.rd) ?_
    rintro _ w1 ⟨rfl, r1, k1⟩
    have M1 := h.setR r1 k1
    refine ⟨_, rfl, bcF (sne (by decide)) ⟨fun x w6 => w1 = w6 ∧ x = false, ?_, fun x w7 => w1 = w7 ∧ x = false, ?_, bcF (sne (by decide)) ⟨rfl, rfl⟩⟩⟩
    · rintro _ _ ⟨rfl, rfl⟩
      refine bcF rfl ⟨fun x w8 => w1 = w8 ∧ x = true, ?_, bcT (by simp) (onPtr_mk ⟨_, (M1.mv.cell 0).trans rfl, rfl, by rw [← ek]; simpa using g⟩)⟩
      rintro _ _ ⟨rfl, rfl⟩
      refine bcT rfl (Calls.use (bytes57 r1 hs hl) ?_)
      rintro _ w9 ⟨rfl, r9, k9⟩
      have M9 := M1.setR r9 k9
      refine ⟨_, rfl, onPtr_mk ⟨can4 M9.mv, fun w10 e10 => ?_⟩⟩
      have P10 := put4 M9.mv e10
      have M10 := M9.setM P10
      refine onPtr_mk ⟨can2 M10.mv, fun w11 e11 => ?_⟩
      have P11 := put2 M10.mv e11
      have M11 := M10.setM P11
      refine ⟨rfl, ?_, ?_⟩
      · have e : m = { m0 with hit := true, val := ⟨m.val.data.toList.toArray⟩ } := by rw [ba_back, hm, g1, g0, ← h0]
        rw [e]
        have := M11
        simp only [ba_back] at this ⊢
        exact this
      · exact (((two1 k1 fun k hk => .inl hk).trans (two1 k9 fun k hk => .inl hk)).trans (two1 P10.2 fun k hk => .inr hk)).trans (two1 P11.2 fun k hk => .inr hk)
    · rintro _ _ ⟨rfl, rfl⟩
      exact bcF rfl (bcF (sne (by decide)) ⟨rfl, rfl⟩)
end Go.Proofs.YtjfafkgjcgbgfaaDoor
