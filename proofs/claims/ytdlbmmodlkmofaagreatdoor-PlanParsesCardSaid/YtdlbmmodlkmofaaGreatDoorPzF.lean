import Derived.Test.YtdlbmmodlkmofaaGreatDoorPzE
set_option maxRecDepth 20000
namespace Go.Proofs.YtdlbmmodlkmofaaGreatDoor
open Go Go.Vc Go.RowKit
theorem elemStr : ElemOk Tryz.prog 56 9 1 16 := ⟨Tryz.underlying56, .string ⟨#[]⟩, by kernel_rfl, rfl⟩
theorem itoaLit {n : Nat} {ds : List UInt8} (h : Lib.decDigits n = ds) (hn : n < 100) (w : World) : Calls Tryz.prog 19 #[.int .i64 (n : Int)] w (Ret fun v w' => v = .string (bs ds) ∧ w = w') := by
  refine (Tryz.strconv_Itoa_small n hn w).mono ?_
  rintro e w' ⟨rfl, rfl⟩
  rw [h]
  exact ⟨_, rfl, rfl, rfl⟩
theorem dig {n : Nat} (h : n < 10) : Lib.decDigits n = [UInt8.ofNat (48 + n)] := by rw [Lib.decDigits, dif_pos h]
theorem dig2 {n : Nat} (h : 10 ≤ n) (h' : n < 100) : Lib.decDigits n = [UInt8.ofNat (48 + n / 10), UInt8.ofNat (48 + n % 10)] := by
  rw [Lib.decDigits, dif_neg (by omega), dig (by omega)]; rfl
def sm : Gm := ⟨64, 4, 3, 8⟩
def l1s : List ByteArray := [bs [102, 97, 117, 108, 116], bs [112, 114, 111, 103, 114, 97, 109], bs [51], bs [99, 108, 101, 97, 110]]
def l2s : List ByteArray := [bs [99, 114, 97, 115, 104], bs [49, 55], bs [108, 111, 115, 116]]
def l3s : List ByteArray := [bs [112, 97, 103, 101], bs [48], bs [107, 101, 112, 116]]
def l4s : List ByteArray := [bs [112, 97, 103, 101], bs [53], bs [116, 111, 114, 110]]
def l5s : List ByteArray := [bs [112, 97, 103, 101], bs [53], bs [116, 111, 114, 110], bs [49, 50]]
def t1 : List UInt8 := [] ++ lineOf l1s
def t2 : List UInt8 := t1 ++ lineOf l2s
def t3 : List UInt8 := t2 ++ lineOf l3s
def t4 : List UInt8 := t3 ++ lineOf l5s
theorem len1 : ([] : List UInt8).length + (lineOf l1s).length ≤ 1000000 := of_decide_eq_true (by kernel_rfl)
theorem len2 : t1.length + (lineOf l2s).length ≤ 1000000 := of_decide_eq_true (by kernel_rfl)
theorem len3 : t2.length + (lineOf l3s).length ≤ 1000000 := of_decide_eq_true (by kernel_rfl)
theorem len4 : t3.length + (lineOf l5s).length ≤ 1000000 := of_decide_eq_true (by kernel_rfl)
theorem t4_is : t4 = [102, 97, 117, 108, 116, 32, 112, 114, 111, 103, 114, 97, 109, 32, 51, 32, 99, 108, 101, 97, 110, 10, 99, 114, 97, 115, 104, 32, 49, 55, 32, 108, 111, 115, 116, 10, 112, 97, 103, 101, 32, 48, 32, 107, 101, 112, 116, 10, 112, 97, 103, 101, 32, 53, 32, 116, 111, 114, 110, 32, 49, 50, 10] := by kernel_rfl
def cr1 : Cr := ⟨17, 2, [(0, 1, 0), (5, 3, 12)]⟩
def f1s : List T3 := [(2, 3, 1)]
theorem chk_lit : chk sm f1s [cr1] = 0 := by kernel_rfl
theorem print33 {w : World} {q1 q2 : Option Addr} {c1 c2 : Nat} (h1 : RE En.t3 w q1 1 f1s) (h2 : CrsR w q2 1 [cr1]) :
    Calls Tryz.prog 7 #[.agg (gv sm).toArray, .agg #[.slice q1 1 c1, .slice q2 1 c2]] w (Ret fun v w' => v = .tuple #[.string (bs t4), .int .i64 0] ∧ Chg none_ w w') := by
  refine f7.calls _ _ _ _ _ _ _ _ _ _ ?_
  unfold f7.wp
  refine newBox fun w1 B1 k1 _ => newBox fun w2 B2 k2 _ => ?_
  have k02 := k1.trans k2
  refine ⟨_, _, _, _, (k2.blk B1 (fun x => x)).reads0, _, _, _, _, _, _, B2.reads0, Calls.use (check14 sm (h1.chg k02) (h2.chg k02) (by decide) (by decide)) ?_⟩
  rintro _ w3 ⟨rfl, k3⟩
  have k03 := k02.trans k3
  rw [chk_lit]
  refine ⟨_, rfl, bcF rfl (newBox fun w4 B4 k4 _ => ?_)⟩
  have hb0 : Bd w3.heap.size [] w4 := .inl ⟨Nat.le_refl _, .slice none 0 0, B4, World.ownsRowF_nil _ _ _ _, by simp [Value.ownBlock]⟩
  have hp1 : w1.heap.size < w3.heap.size := Nat.lt_of_lt_of_le B2.lt k3.size
  have P3 := k3.blk B2 (fun x => x)
  generalize hbd : w3.heap.size = b at *
  have hlow : w3.heap.size ≤ b := by omega
  refine ⟨_, _, _, ((k4.blk P3 (fun x => x)).cell 0).trans rfl, fun x w' => (x = 0 ∧ Bd b [] w' ∨ x = 1 ∧ Bd b t1 w') ∧ Chg none_ w3 w', fun x _ => (1 - x).toNat, ⟨.inl ⟨rfl, hb0⟩, k4⟩, ?_⟩
  rintro x w5 ⟨hx, k5⟩
  rcases hx with ⟨rfl, hB⟩ | ⟨rfl, hB⟩
  · refine bcT rfl ?_
    obtain ⟨a, u, rfl, hu, hr⟩ := (h1.chg (k03.trans k5)).ex (i := 0) (by decide)
    cases hu
    refine onPtr_mk ⟨by decide, by decide, _, _, _, hr, boxed rfl rfl fun w7 B7 k7 _ => ?_⟩
    have B7' := B7.drew
    have k57 := k7.drew
    generalize w7.drew = w7' at *
    refine ⟨fun p => p.block < w7'.heap.size, _, B7'.lt, (B7'.cell 0).trans rfl, _, B7'.lt, (B7'.cell0 1).trans rfl, _, B7'.lt, (B7'.cell0 2).trans rfl, Calls.use (words_op w7') ?_⟩
    rintro _ w8 ⟨rfl, B8, k8, _⟩
    refine ⟨_, _, _, rfl, k8.keeps, onPtr_mk ⟨by decide, by decide, fun p => p.block < w8.heap.size, _, B8.lt, (B8.cell0 _).trans rfl, Calls.use (itoaLit (n := 3) (dig (by decide)) (by decide) w8) ?_⟩⟩
    rintro _ _ ⟨rfl, rfl⟩
    refine ⟨_, rfl, ⟨k8.keeps, fun _ _ => rfl⟩, Calls.use (words_fault w8) ?_⟩
    rintro _ w10 ⟨rfl, B10, k10, _⟩
    refine ⟨_, _, _, rfl, ⟨(k8.trans k10).keeps, k10.keeps⟩, onPtr_mk ⟨by decide, by decide, fun p => p.block < w10.heap.size, _, B10.lt, (B10.cell0 _).trans rfl, fun w11 e11 => ?_⟩⟩
    have k11 := (Chg.refl none_ w10).new' e11
    have kall := k57.trans ((k8.trans k10).trans k11)
    refine ⟨⟨⟨((k8.trans k10).trans k11).keeps, (k10.trans k11).keeps⟩, k11.keeps⟩, Calls.use (line66 (hB.chg kall) (litStrs (xs := l1s) e11 rfl) (new_blk e11).lt (Nat.le_refl _) (by decide) len1) ?_⟩
    rintro _ w12 ⟨rfl, hB12, kp⟩
    exact ⟨rfl, ⟨.inr ⟨rfl, hB12⟩, kp.chg (k5.trans kall) hlow⟩, show 0 < 1 by decide⟩
  refine bcF rfl ⟨_, _, _, ((k5.blk P3 (fun x => x)).cell0 1).trans rfl, fun x w' => (x = 0 ∧ Bd b t1 w' ∨ x = 1 ∧ Bd b t4 w') ∧ Chg none_ w3 w', fun x _ => (1 - x).toNat, ⟨.inl ⟨rfl, hB⟩, k5⟩, ?_⟩
  clear hB k5 hb0
  rintro x w13 ⟨hx, k13⟩
  rcases hx with ⟨rfl, hB⟩ | ⟨rfl, hB⟩
  · refine bcT rfl ?_
    obtain ⟨a, u, y, rfl, hy, hr, eu1, eu2, hf, _⟩ := h2.at' (i := 0) (by decide)
    cases hy
    have hfl := hf.len
    obtain ⟨us, ur, uq, ul, uc⟩ := u
    simp only at eu1 eu2 hf hfl
    subst eu1; subst eu2
    obtain rfl : ul = 2 := hfl.symm
    refine onPtr_mk ⟨by decide, by decide, _, _, _, _, _, (k03.trans k13).readsN hr, boxed rfl rfl fun w15 B15 k15 _ => ?_⟩
    have B15' := B15.drew
    have k15' := k15.drew
    generalize w15.drew = w15' at *
    refine ⟨fun p => p.block < w15'.heap.size, _, B15'.lt, (B15'.cell 0).trans rfl, _, B15'.lt, (B15'.cell0 1).trans rfl, Calls.use (itoaLit (n := 17) (dig2 (by decide) (by decide)) (by decide) w15') ?_⟩
    rintro _ _ ⟨rfl, rfl⟩
    refine ⟨_, rfl, fun _ _ => rfl, Calls.use (words_fate w15') ?_⟩
    rintro _ w17 ⟨rfl, B17, k17, _⟩
    refine ⟨_, _, _, rfl, k17.keeps, onPtr_mk ⟨show (0 : Int) ≤ 2 by decide, show (2 : Int) < 4 by decide, fun p => p.block < w17.heap.size, _, B17.lt, (B17.cell0 _).trans rfl, fun w18 e18 => ?_⟩⟩
    have k18 := (Chg.refl none_ w17).new' e18
    have kall := k15'.trans (k17.trans k18)
    refine ⟨⟨(k17.trans k18).keeps, k18.keeps⟩, Calls.use (line66 (hB.chg kall) (litStrs (xs := l2s) e18 rfl) (new_blk e18).lt (Nat.le_refl _) (by decide) len2) ?_⟩
    rintro _ w19 ⟨rfl, hB19, kp⟩
    have B19 := kp.blk ((k17.trans k18).blk B15' (fun x => x)) (fun e => absurd hB.lt (by omega)) (by decide)
    have k19 := kp.chg (k13.trans kall) hlow
    refine ⟨rfl, _, _, _, (B19.cell0 2).trans rfl, fun x w' => (x = 0 ∧ Bd b t2 w' ∨ x = 1 ∧ Bd b t3 w' ∨ x = 2 ∧ Bd b t4 w') ∧ Chg none_ w3 w', fun x _ => (2 - x).toNat, ⟨.inl ⟨rfl, hB19⟩, k19⟩, ?_⟩
    have hf3 : ∀ {w' : World}, Chg none_ w3 w' → RE En.t3 w' uq 2 cr1.fates := fun k => hf.chg (k03.trans k)
    rintro x w20 ⟨hx, k20⟩
    rcases hx with ⟨rfl, hB⟩ | ⟨rfl, hB⟩ | ⟨rfl, hB⟩
    · refine bcT rfl ?_
      obtain ⟨a, u, rfl, hu, hr⟩ := (hf3 k20).ex (i := 0) (by decide)
      cases hu
      refine onPtr_mk ⟨by decide, show (0 : Int) < 2 by decide, _, _, _, hr, boxed rfl rfl fun w22 B22 k22 _ => ?_⟩
      have B22' := B22.drew
      have k22' := k22.drew
      generalize w22.drew = w22' at *
      refine ⟨fun p => p.block < w22'.heap.size, _, B22'.lt, (B22'.cell 0).trans rfl, _, B22'.lt, (B22'.cell0 1).trans rfl, Calls.use (itoaLit (n := 0) (dig (by decide)) (by decide) w22') ?_⟩
      rintro _ _ ⟨rfl, rfl⟩
      refine ⟨_, rfl, fun _ _ => rfl, Calls.use (words_fate w22') ?_⟩
      rintro _ w24 ⟨rfl, B24, k24, _⟩
      refine ⟨_, _, _, rfl, k24.keeps, onPtr_mk ⟨by decide, by decide, _, (B24.cell0 _).trans rfl, fun w25 e25 => ?_⟩⟩
      have k25 := (Chg.refl none_ w24).new' e25
      have kall := k22'.trans (k24.trans k25)
      refine ⟨_, (((k24.trans k25).blk B22' (fun x => x)).cell0 1).trans rfl, bcF rfl (Calls.use (line66 (hB.chg kall) (litStrs (xs := l3s) e25 rfl) (new_blk e25).lt (Nat.le_refl _) (by decide) len3) ?_)⟩
      rintro _ w30 ⟨rfl, hB30, kp⟩
      exact ⟨rfl, ⟨.inr (.inl ⟨rfl, hB30⟩), kp.chg (k20.trans kall) hlow⟩, show 1 < 2 by decide⟩
    · refine bcT rfl ?_
      obtain ⟨a, u, rfl, hu, hr⟩ := (hf3 k20).ex (i := 1) (by decide)
      cases hu
      refine onPtr_mk ⟨by decide, show (1 : Int) < 2 by decide, _, _, _, hr, boxed rfl rfl fun w22 B22 k22 _ => ?_⟩
      have B22' := B22.drew
      have k22' := k22.drew
      generalize w22.drew = w22' at *
      refine ⟨fun p => p.block < w22'.heap.size, _, B22'.lt, (B22'.cell 0).trans rfl, _, B22'.lt, (B22'.cell0 1).trans rfl, Calls.use (itoaLit (n := 5) (dig (by decide)) (by decide) w22') ?_⟩
      rintro _ _ ⟨rfl, rfl⟩
      refine ⟨_, rfl, fun _ _ => rfl, Calls.use (words_fate w22') ?_⟩
      rintro _ w24 ⟨rfl, B24, k24, _⟩
      refine ⟨_, _, _, rfl, k24.keeps, onPtr_mk ⟨by decide, by decide, _, (B24.cell0 _).trans rfl, fun w25 e25 => ?_⟩⟩
      have k25 := (Chg.refl none_ w24).new' e25
      have B25 := (k24.trans k25).blk B22' (fun x => x)
      refine ⟨_, (B25.cell0 1).trans rfl, bcT rfl ⟨_, (B25.cell0 2).trans rfl, Calls.use (itoaLit (n := 12) (dig2 (by decide) (by decide)) (by decide) w25) ?_⟩⟩
      rintro _ _ ⟨rfl, rfl⟩
      refine ⟨_, rfl, fun w27 e27 => ?_⟩
      have k27 := (Chg.refl none_ w25).new' e27
      have L25 := litStrs (xs := l4s) e25 rfl
      have S25 : SE En.str w27 w24.heap.size 9 (some ⟨w24.heap.size, 0, none⟩) 3 3 l4s := SE.lit (k27.blk (new_blk e25) (fun x => x)) (Nat.le_refl _) (fun n v hv => show (En.str.flat l4s).toArray[n]? = some v by rw [List.getElem?_toArray]; exact hv) rfl (by decide) (by decide) (by decide)
      obtain ⟨q11, c11, w28, hrun, s28, k28, _, hq⟩ := S25.append1 (t := 56) (ty := 56) (x := bs [49, 50]) elemStr (new_blk e27) (by decide) (by decide) (k25.trans k27).size
      refine ⟨_, _, _, _, hrun, ?_⟩
      have k28' : Chg none_ w24 w28 := (k25.trans k27).up k28 fun k hk => by
        simp [qB] at hk; omega
      have kall := k22'.trans (k24.trans k28')
      obtain ⟨a11, rfl⟩ := Option.ne_none_iff_exists'.1 hq
      obtain ⟨g, off, cur, hg, _, hbl, _⟩ := (s28.ex).resolve_left (fun h => by cases h.1)
      cases hg
      refine Calls.use (line66 (hB.chg kall) s28.re hbl.lt s28.le (by decide) len4) ?_
      rintro _ w29 ⟨rfl, hB29, kp⟩
      exact ⟨rfl, ⟨.inr (.inr ⟨rfl, hB29⟩), kp.chg (k20.trans kall) hlow⟩, show 0 < 1 by decide⟩
    · exact bcF rfl ⟨⟨.inr ⟨rfl, hB⟩, k20⟩, show 0 < 1 by decide⟩
  refine bcF rfl ?_
  refine (Tryz.Builder_String_any_k b b t4 w13 hB (Nat.le_of_lt hB.lt)).mono ?_
  rintro e w31 ⟨rfl, _, hbl, hok⟩
  exact ⟨_, rfl, rfl, k03.trans (Kp.chg ⟨hbl, hok⟩ k13 hlow)⟩
end Go.Proofs.YtdlbmmodlkmofaaGreatDoor
