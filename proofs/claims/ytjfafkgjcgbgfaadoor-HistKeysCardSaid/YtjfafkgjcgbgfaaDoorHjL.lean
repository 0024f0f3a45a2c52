import Derived.Test.YtjfafkgjcgbgfaaDoorHjK
set_option maxRecDepth 20000
namespace Go.Proofs.YtjfafkgjcgbgfaaDoor
open Go Go.Vc Go.RowKit
theorem digit_num (T : World → Prop) (d : Nat) (h : d < 10) : Num T ⟨#[UInt8.ofNat (48 + d)]⟩ d := by
  have h1 : ∀ d : Fin 10, Lib.atoi [UInt8.ofNat (48 + d.1)] = some (d.1 : Int) := by decide +kernel
  refine ⟨Nat.le_of_ble_eq_true rfl, h1 ⟨d, h⟩, by omega, fun w' _ => (Tryd.strconv_Itoa_small d (by omega) w').mono ?_⟩
  rintro _ _ ⟨rfl, rfl⟩
  refine ⟨?_, Chg.refl _ _⟩
  rw [Lib.decDigits, dif_pos h]
def lit : ByteArray := ⟨#[48, 32, 48, 32, 53, 32, 112, 117, 116, 32, 54, 98, 32, 55, 54, 32, 111, 107, 10, 48, 32, 51, 32, 52, 32, 103, 101, 116, 32, 54, 98, 32, 109, 105, 115, 115, 10, 48, 32, 54, 32, 56, 32, 103, 101, 116, 32, 54, 98, 32, 104, 105, 116, 32, 55, 54, 10, 49, 32, 57, 32, 45, 32, 100, 101, 108, 101, 116, 101, 32, 54, 98, 10]⟩
def lit1 : ByteArray := ⟨#[48, 32, 51, 32, 52, 32, 103, 101, 116, 32, 54, 98, 32, 109, 105, 115, 115, 10, 48, 32, 54, 32, 56, 32, 103, 101, 116, 32, 54, 98, 32, 104, 105, 116, 32, 55, 54, 10, 49, 32, 57, 32, 45, 32, 100, 101, 108, 101, 116, 101, 32, 54, 98, 10]⟩
def lit2 : ByteArray := ⟨#[48, 32, 54, 32, 56, 32, 103, 101, 116, 32, 54, 98, 32, 104, 105, 116, 32, 55, 54, 10, 49, 32, 57, 32, 45, 32, 100, 101, 108, 101, 116, 101, 32, 54, 98, 10]⟩
def lit3 : ByteArray := ⟨#[49, 32, 57, 32, 45, 32, 100, 101, 108, 101, 116, 101, 32, 54, 98, 10]⟩
def l0 : ByteArray := ⟨#[48, 32, 48, 32, 53, 32, 112, 117, 116, 32, 54, 98, 32, 55, 54, 32, 111, 107]⟩
def l1 : ByteArray := ⟨#[48, 32, 51, 32, 52, 32, 103, 101, 116, 32, 54, 98, 32, 109, 105, 115, 115]⟩
def l2 : ByteArray := ⟨#[48, 32, 54, 32, 56, 32, 103, 101, 116, 32, 54, 98, 32, 104, 105, 116, 32, 55, 54]⟩
def l3 : ByteArray := ⟨#[49, 32, 57, 32, 45, 32, 100, 101, 108, 101, 116, 101, 32, 54, 98]⟩
def dg (d : Nat) : ByteArray := ⟨#[UInt8.ofNat (48 + d)]⟩
def hxk : ByteArray := ⟨#[54, 98]⟩
def hxv : ByteArray := ⟨#[55, 54]⟩
theorem t0 : Lib.cut lit.data.toList [10] = (l0.data.toList, lit1.data.toList, true) := by decide +kernel
theorem t1 : Lib.cut lit1.data.toList [10] = (l1.data.toList, lit2.data.toList, true) := by decide +kernel
theorem t2 : Lib.cut lit2.data.toList [10] = (l2.data.toList, lit3.data.toList, true) := by decide +kernel
theorem t3 : Lib.cut lit3.data.toList [10] = (l3.data.toList, (⟨#[]⟩ : ByteArray).data.toList, true) := by decide +kernel
theorem p0 : SplitIs l0 [dg 0, dg 0, dg 5, kindW 2, hxk, hxv, okW] := ⟨by decide, by decide +kernel, by decide +kernel⟩
theorem p1 : SplitIs l1 [dg 0, dg 3, dg 4, kindW 1, hxk, missW] := ⟨by decide, by decide +kernel, by decide +kernel⟩
theorem p2 : SplitIs l2 [dg 0, dg 6, dg 8, kindW 1, hxk, hitW, hxv] := ⟨by decide, by decide +kernel, by decide +kernel⟩
theorem p3 : SplitIs l3 [dg 1, dg 9, dashW, kindW 3, hxk] := ⟨by decide, by decide +kernel, by decide +kernel⟩
def kB : ByteArray := ⟨#[107]⟩
def vB : ByteArray := ⟨#[118]⟩
def m0 : Mv := ⟨2, kB, vB, 0, false, 0, 0, 5⟩
def m1 : Mv := ⟨1, kB, e0, 0, false, 0, 3, 4⟩
def m2 : Mv := ⟨1, kB, vB, 0, true, 0, 6, 8⟩
def m3 : Mv := ⟨3, kB, e0, 0, false, 1, 9, -1⟩
def ms4 : List Mv := [m0, m1, m2, m3]
theorem hexK : IsHex hxk kB.data.toList := .inr ⟨by decide, by decide +kernel⟩
theorem hexV : IsHex hxv vB.data.toList := .inr ⟨by decide, by decide +kernel⟩
theorem q0 (T : World → Prop) : LineIs T m0 [dg 0, dg 0, dg 5, kindW 2, hxk, hxv, okW] :=
  ⟨⟨_, _, _, [hxk], [hxv], [okW], rfl, digit_num T 0 (by omega), digit_num T 0 (by omega), .inr ⟨by decide, digit_num T 5 (by omega)⟩, .inl ⟨by decide, _, rfl, hexK, by decide⟩, .inl ⟨rfl, _, rfl, hexV, by decide⟩, .inl ⟨by decide, .ok (by decide) rfl rfl⟩⟩, by decide, by decide⟩
theorem q1 (T : World → Prop) : LineIs T m1 [dg 0, dg 3, dg 4, kindW 1, hxk, missW] :=
  ⟨⟨_, _, _, [hxk], [], [missW], rfl, digit_num T 0 (by omega), digit_num T 3 (by omega), .inr ⟨by decide, digit_num T 4 (by omega)⟩, .inl ⟨by decide, _, rfl, hexK, by decide⟩, .inr ⟨by decide, rfl, fun _ => rfl⟩, .inl ⟨by decide, .miss rfl rfl rfl⟩⟩, by decide, by decide⟩
theorem q2 (T : World → Prop) : LineIs T m2 [dg 0, dg 6, dg 8, kindW 1, hxk, hitW, hxv] :=
  ⟨⟨_, _, _, [hxk], [], [hitW, hxv], rfl, digit_num T 0 (by omega), digit_num T 6 (by omega), .inr ⟨by decide, digit_num T 8 (by omega)⟩, .inl ⟨by decide, _, rfl, hexK, by decide⟩, .inr ⟨by decide, rfl, fun h => by cases h⟩, .inl ⟨by decide, .hit _ rfl rfl rfl hexV (by decide)⟩⟩, by decide, by decide⟩
theorem q3 (T : World → Prop) : LineIs T m3 [dg 1, dg 9, dashW, kindW 3, hxk] :=
  ⟨⟨_, _, _, [hxk], [], [], rfl, digit_num T 1 (by omega), digit_num T 9 (by omega), .inl ⟨rfl, rfl⟩, .inl ⟨by decide, _, rfl, hexK, by decide⟩, .inr ⟨by decide, rfl, fun _ => rfl⟩, .inr ⟨rfl, rfl, rfl, rfl⟩⟩, by decide, by decide⟩
theorem litIs (T : World → Prop) : TextIs T lit ms4 :=
  .cons _ l0 lit1 _ _ _ (by decide) (by decide) t0 p0 (q0 T) (.cons _ l1 lit2 _ _ _ (by decide) (by decide) t1 p1 (q1 T) (.cons _ l2 lit3 _ _ _ (by decide) (by decide) t2 p2 (q2 T) (.cons _ l3 ⟨#[]⟩ _ _ _ (by decide) (by decide) t3 p3 (q3 T) .nil)))
theorem ms4_ok : Chk ms4 0 0 := by
  refine .ok (by decide) (oks_pair.2 ⟨fun m hm => ?_, ?_⟩)
  · simp only [ms4, List.mem_cons, List.not_mem_nil, or_false] at hm
    rcases hm with rfl | rfl | rfl | rfl
    · exact ⟨by decide, by decide, by decide, by decide, by decide, by decide, by decide, by decide, by decide, by decide, by decide, by decide, .inr (.inl rfl), .inl (by decide)⟩
    · exact ⟨by decide, by decide, by decide, by decide, by decide, by decide, by decide, by decide, by decide, by decide, by decide, by decide, .inl rfl, .inl (by decide)⟩
    · exact ⟨by decide, by decide, by decide, by decide, by decide, by decide, by decide, by decide, by decide, by decide, by decide, by decide, .inr (.inr rfl), .inl (by decide)⟩
    · exact ⟨by decide, by decide, by decide, by decide, by decide, by decide, by decide, by decide, by decide, by decide, by decide, by decide, .inl rfl, .inl (by decide)⟩
  · have : ∀ a b : Mv, a.life ≤ b.life → a.frm < b.frm → (a.life < b.life → a.to < b.frm) → RR a b := fun a b h1 h2 h3 => ⟨h1, h2, h3⟩
    simp only [ms4, List.pairwise_cons, List.mem_cons, List.not_mem_nil, or_false, forall_eq_or_imp, forall_eq]
    exact ⟨⟨this _ _ (by decide) (by decide) (by decide), this _ _ (by decide) (by decide) (by decide), this _ _ (by decide) (by decide) (by decide)⟩, ⟨this _ _ (by decide) (by decide) (by decide), this _ _ (by decide) (by decide) (by decide)⟩, this _ _ (by decide) (by decide) (by decide), fun _ h => h.elim, List.Pairwise.nil⟩
theorem awake10 {w : World} (hS : w.ShapedOpen Tryd.prog) : Calls Tryd.prog 10 #[] w (Ret fun v w' => v = .bool true ∧ Chg none_ w w') := by
  have hSt : ∀ {w' : World}, Chg none_ w w' → w'.ShapedOpen Tryd.prog := fun h => World.ShapedOpen.keptBut hS (h.below.frame (fun _ => False)) (fun _ h => h.elim)
  have hT : Stays w.heap.size (Chg none_ w) := fun {S a b} k hS t => t.up k hS
  refine f10.calls ?_
  unfold f10.wp
  refine Calls.use (parse22 (s := lit) hT (fun _ h => hSt h) (litIs _) (by decide) ms4_ok (Nat.le_refl _) (Chg.refl _ _)) ?_
  rintro _ w1 ⟨q, c, rfl, S1, k1⟩
  refine ⟨q, 4, c, 0, 0, rfl, bcT rfl (bcT rfl (Calls.use (width15 S1.re S1.le) ?_))⟩
  rintro _ w2 ⟨n, rfl, hn, k2⟩
  obtain rfl : n = 2 := (hn.ok ms4_ok).trans (by decide +kernel)
  refine ⟨_, rfl, bcT rfl (Calls.use (cut17 4 ((S1.chgN k2).re) (by decide)) ?_)⟩
  rintro _ w3 ⟨q3, l3, c3, rfl, S3, k3⟩
  have hl : l3 = 2 := by
    have := S3.len
    rw [← this]
    decide +kernel
  subst hl
  have k13 := k2.trans k3
  obtain ⟨a, ha, r2⟩ := (S1.re.chg k13).get 2 m2 rfl
  obtain ⟨a', ha', r3⟩ := (S1.re.chg k13).get 3 m3 rfl
  subst ha
  cases ha'
  exact ⟨_, _, _, rfl, bcT rfl (onPtr_mk ⟨by decide, by decide, true, r2 4 _ rfl, bcT rfl (onPtr_mk ⟨by decide, by decide, -1, r3 7 _ rfl, rfl, k1.trans k13⟩)⟩)⟩
end Go.Proofs.YtjfafkgjcgbgfaaDoor
