import Derived.Test.YtjfafkgjcgbgfaaDoorHjS
import Derived.Test.YtjfafkgjcgbgfaaDoorAps
import Derived.Shelf.Strings.BuilderK
set_option maxRecDepth 20000
namespace Go.Proofs.YtjfafkgjcgbgfaaDoor
open Go Go.Vc Go.RowKit
/-! # the builder -/
def lays167_ren : Go.Shelf.Ren := ⟨fun | 167 => 64 | 240 => 44 | 276 => 62 | n => n, fun | 0 => 0 | 4 => 4 | 5 => 5 | 9 => 9 | 20 => 20 | 37 => 89 | 70 => 88 | 72 => 91 | 75 => 93 | 164 => 133 | 80 => 98 | n => n, fun | n => n⟩
theorem lays167 : Go.Proofs.Lays.n167 Tryd.prog lays167_ren := {
  mixed := by kernel_rfl
  f167 := Tryd.func64.trans (congrArg some (by kernel_rfl))
  f240 := Tryd.func44.trans (congrArg some (by kernel_rfl))
  f276 := Tryd.func62.trans (congrArg some (by kernel_rfl))
  t0 := Tryd.underlying0
  a0 := Tryd.isAgg0
  z0 := Tryd.sizeOf0
  v0 := Tryd.zeroValue0
  t4 := Tryd.underlying4
  a4 := Tryd.isAgg4
  z4 := Tryd.sizeOf4
  v4 := Tryd.zeroValue4
  t5 := Tryd.underlying5
  a5 := Tryd.isAgg5
  z5 := Tryd.sizeOf5
  v5 := Tryd.zeroValue5
  t9 := Tryd.underlying9
  a9 := Tryd.isAgg9
  z9 := Tryd.sizeOf9
  v9 := Tryd.zeroValue9
  t20 := Tryd.underlying20
  a20 := Tryd.isAgg20
  z20 := Tryd.sizeOf20
  v20 := Tryd.zeroValue20
  t37 := Tryd.underlying89
  a37 := Tryd.isAgg89
  z37 := Tryd.sizeOf89
  v37 := Tryd.zeroValue89
  t70 := Tryd.underlying88
  a70 := Tryd.isAgg88
  z70 := Tryd.sizeOf88
  v70 := Tryd.zeroValue88
  t72 := Tryd.underlying91
  a72 := Tryd.isAgg91
  z72 := Tryd.sizeOf91
  v72 := Tryd.zeroValue91
  t75 := Tryd.underlying93
  a75 := Tryd.isAgg93
  z75 := Tryd.sizeOf93
  v75 := Tryd.zeroValue93
  t164 := Tryd.underlying133
  a164 := Tryd.isAgg133
  z164 := Tryd.sizeOf133
  v164 := Tryd.zeroValue133 }
theorem builder_Extra_167 : Builder.Extra Tryd.prog lays167_ren := {
  sizeBuilder := by kernel_rfl
  liesBuilder := by kernel_rfl
  t5 := Tryd.underlying5
  a5 := Tryd.isAgg5
  z5 := Tryd.sizeOf5
  v5 := Tryd.zeroValue5
  infoByte := by kernel_rfl
  cellsByte := by kernel_rfl
  sizeByte := by kernel_rfl
  neB5 := by decide }
theorem writeByte (B b : Nat) (bs : List Value) (c : Int) (w : World) (h : Lib.IsBuilderF 91 5 B b bs w) (hlen : bs.length + 1 ≤ 140737488355328) (hBw : B ≤ w.heap.size) :
    Calls Tryd.prog 64 #[.pointer (some ⟨b, 0, none⟩), .int .u8 c] w fun e w' => e = .returned .nilIface ∧ (Lib.BuilderAtF 91 5 B b (.pointer (some ⟨b, 0, none⟩)) (bs ++ [.int .u8 c]) w' ∧ Below B w w' ∧ Lib.OthersKept 5 (some b) w w') :=
  Any.Builder_WriteByte_k lays167 builder_Extra_167 B b bs c w h hlen hBw
theorem writeStr (B b : Nat) (bs : List Value) (s : ByteArray) (w : World) (h : Lib.IsBuilderF 91 5 B b bs w) (hlen : bs.length + s.size ≤ 140737488355328) (hBw : B ≤ w.heap.size) :
    Calls Tryd.prog 31 #[.pointer (some ⟨b, 0, none⟩), .string s] w fun e w' => e = .returned (.tuple #[.int .i64 s.size, .nilIface]) ∧ (Lib.BuilderAtF 91 5 B b (.pointer (some ⟨b, 0, none⟩)) (bs ++ Lib.strCells s) w' ∧ Below B w w' ∧ Lib.OthersKept 5 (some b) w w') :=
  Any.Builder_WriteString_k (ρ := Tryd.lays156_ren) { Tryd.lays156 with } Tryd.Builder_Extra_156 B b bs s w h hlen hBw
/-! # the text that a builder holds -/
def Bd (b : Nat) (txt : List UInt8) (w : World) : Prop := Lib.IsBuilderF 91 5 b b (Lib.byteCells txt) w
theorem Bd.lt {b : Nat} {txt : List UInt8} {w : World} (h : Bd b txt w) : b < w.heap.size := by
  rcases h with h | h
  · exact h.lt
  · exact h.lt
theorem Bd.chg {b : Nat} {txt : List UInt8} {w w' : World} (h : Bd b txt w) (c : Chg none_ w w') : Bd b txt w' := by
  have g : w.grownBy w' none := ⟨c.os, c.tape, c.output, c.size, fun k hk _ => c.block k hk (fun x => x)⟩
  have one : ∀ p, Lib.BuilderAtF 91 5 b b p (Lib.byteCells txt) w → Lib.BuilderAtF 91 5 b b p (Lib.byteCells txt) w' := fun p h => by
    have hlt := h.lt
    obtain ⟨hB, v, hb, hown, hne⟩ := h
    refine ⟨hB, v, (c.block b hlt (fun x => x)).trans hb, hown.kept g ?_, hne⟩
    cases hv : v.ownBlock with
    | none => exact .inl rfl
    | some k => exact .inr (by simp)
  rcases h with h | h
  · exact .inl (one _ h)
  · exact .inr (one _ h)
/-- what a line leaves as it was: the blocks below the builder's, and those of no bytes -/
structure Kp (b : Nat) (w w' : World) : Prop where
  below : Below b w w'
  others : Lib.OthersKept 5 (some b) w w'
theorem Kp.of {b : Nat} {w w' : World} (c : Chg none_ w w') (hb : b ≤ w.heap.size) : Kp b w w' :=
  ⟨⟨c.os, c.tape, c.output, c.size, fun k hk => c.block k (by omega) (fun x => x)⟩, fun k o hk _ _ => (c.block k (by
    rcases Nat.lt_or_ge k w.heap.size with h | h
    · exact h
    · rw [Array.getElem?_eq_none h] at hk; cases hk) (fun x => x)).trans hk⟩
theorem Kp.trans {b : Nat} {w w' w'' : World} (h : Kp b w w') (k : Kp b w' w'') : Kp b w w'' := ⟨h.below.trans k.below, h.others.trans k.others⟩
theorem Kp.blk {b : Nat} {w w' : World} (h : Kp b w w') {k : Nat} {t : TypeId} {cs : Array Value} (hb : Blk w k t cs) (hk : k ≠ b) (ht : t ≠ 5) : Blk w' k t cs :=
  h.others k _ hb (fun e => hk (Option.some.inj e)) (fun c fz e => by cases e; exact ht rfl)
theorem Kp.chg {b : Nat} {w0 w w' : World} (h : Kp b w w') (c : Chg none_ w0 w) (hb : w0.heap.size ≤ b) : Chg none_ w0 w' :=
  ⟨h.below.os.trans c.os, h.below.tape.trans c.tape, h.below.output.trans c.output, Nat.le_trans c.size h.below.size, fun k hk _ => (h.below.block k (by omega)).trans (c.block k hk (fun x => x))⟩
theorem byteCells_app (a b : List UInt8) : Lib.byteCells (a ++ b) = Lib.byteCells a ++ Lib.byteCells b := by simp [Lib.byteCells]
theorem byteCells_len (a : List UInt8) : (Lib.byteCells a).length = a.length := by simp [Lib.byteCells]
theorem Bd.new {w w1 : World} (e : w1 = w.alloc (.cells #[.pointer none, .slice none 0 0] 91)) : Bd w.heap.size [] w1 := by
  subst e
  exact Lib.IsBuilderF.of (Lib.fresh_isBuilder 91 5 w)
/-! # hex -/
theorem hexOf_app : ∀ a b : List UInt8, hexOf (a ++ b) = hexOf a ++ hexOf b
  | [], b => rfl
  | x :: a, b => by simp only [List.cons_append, hexOf, hexOf_app a b]
theorem hexOf_next {l : List UInt8} {i : Nat} {u : UInt8} (h : l[i]? = some u) : hexOf (l.take (i + 1)) = hexOf (l.take i) ++ [hx (u.toNat / 16)] ++ [hx (u.toNat % 16)] := by
  rw [List.take_add_one, h, hexOf_app]
  simp [hexOf]
theorem hex_hi : ∀ n : Fin 256, 0 ≤ Int.fdiv ((n.1 : Nat) : Int) (2 ^ (min (4 : Int).toNat (IntKind.bits .u8))) ∧ (⟨#[48, 49, 50, 51, 52, 53, 54, 55, 56, 57, 97, 98, 99, 100, 101, 102]⟩ : ByteArray)[(Int.fdiv ((n.1 : Nat) : Int) (2 ^ (min (4 : Int).toNat (IntKind.bits .u8)))).toNat]? = some (hx (n.1 / 16)) := by decide +kernel
theorem hex_lo : ∀ n : Fin 256, 0 ≤ IntKind.wrap .u8 (((BitVec.ofInt (IntKind.bits .u8) ((n.1 : Nat) : Int) &&& BitVec.ofInt (IntKind.bits .u8) 15).toNat : Nat) : Int) ∧ (⟨#[48, 49, 50, 51, 52, 53, 54, 55, 56, 57, 97, 98, 99, 100, 101, 102]⟩ : ByteArray)[(IntKind.wrap .u8 (((BitVec.ofInt (IntKind.bits .u8) ((n.1 : Nat) : Int) &&& BitVec.ofInt (IntKind.bits .u8) 15).toNat : Nat) : Int)).toNat]? = some (hx (n.1 % 16)) := by decide +kernel
theorem s_get (s : ByteArray) (i : Nat) : s[i]? = s.data.toList[i]? := by
  have := ba_get s.data.toList i
  rwa [ba_back] at this
theorem s_size (s : ByteArray) : s.size = s.data.toList.length := by rw [Array.length_toList]; rfl
theorem s_nil (s : ByteArray) : (s.toList == (⟨#[]⟩ : ByteArray).toList) = true ↔ s.data.toList = [] := by
  rw [ByteArray.toList_eq, ByteArray.toList_eq]; simp
theorem hex47 (s : ByteArray) (hz : s.size ≤ 1000000000) {w : World} : Calls Tryd.prog 47 #[.string s] w (Ret fun v w' => v = .string (hexW s) ∧ Chg none_ w w') := by
  refine f47.calls _ ?_
  unfold f47.wp
  have hsz := s_size s
  refine bc (fun h => ⟨by unfold hexW; rw [if_pos ((s_nil s).1 h)], Chg.refl _ _⟩) fun h => fun w1 e1 => ?_
  have hne : ¬ s.data.toList = [] := fun g => by rw [(s_nil s).2 g] at h; cases h
  have B1 := Bd.new e1
  have k1 := (Chg.refl none_ w).new' e1
  refine ⟨fun x w2 => ∃ i : Nat, x = (i : Int) ∧ i ≤ s.size ∧ Bd w.heap.size (hexOf (s.data.toList.take i)) w2 ∧ Chg none_ w w2, fun x _ => s.size - x.toNat, ⟨0, rfl, by omega, B1, k1⟩, ?_⟩
  rintro _ w2 ⟨i, rfl, hi, B2, k2⟩
  have hl2 : (hexOf (s.data.toList.take i)).length ≤ 2 * i := by rw [hexOf_len, List.length_take]; omega
  refine bc (fun g => ?_) fun g => ?_
  · have g : i < s.size := by simp at g; omega
    obtain ⟨u, hu⟩ := get_ex (l := s.data.toList) (i := i) (by omega)
    have hut := u.toNat_lt
    have hg : s[((i : Nat) : Int).toNat]? = some u := by rw [Int.toNat_natCast, s_get, hu]
    obtain ⟨p1, p2⟩ := hex_hi ⟨u.toNat, hut⟩
    obtain ⟨p3, p4⟩ := hex_lo ⟨u.toNat, hut⟩
    refine ⟨u, by omega, hg, by omega, hx (u.toNat / 16), p1, p2, (writeByte _ _ _ _ w2 B2 (by rw [byteCells_len]; omega) (Nat.le_of_lt B2.lt)).mono ?_⟩
    rintro _ w3 ⟨rfl, hB3, hbl3, hok3⟩
    have kp3 : Kp w.heap.size w2 w3 := ⟨hbl3, hok3⟩
    have B3 : Bd w.heap.size (hexOf (s.data.toList.take i) ++ [hx (u.toNat / 16)]) w3 := by
      unfold Bd; rw [byteCells_app]; exact .inr hB3
    refine ⟨_, rfl, u, by omega, hg, hx (u.toNat % 16), p3, p4, (writeByte _ _ _ _ w3 B3 (by rw [byteCells_len]; simp; omega) (Nat.le_of_lt B3.lt)).mono ?_⟩
    rintro _ w4 ⟨rfl, hB4, hbl4, hok4⟩
    have kp4 : Kp w.heap.size w2 w4 := kp3.trans ⟨hbl4, hok4⟩
    rw [wrapN (by omega)]
    refine ⟨_, rfl, ⟨i + 1, rfl, by omega, ?_, kp4.chg k2 (Nat.le_refl _)⟩, by simp only [Int.toNat_natCast]; omega⟩
    rw [hexOf_next hu]
    unfold Bd; rw [byteCells_app]; exact .inr hB4
  · have hie : i = s.size := by simp at g; omega
    subst hie
    rw [List.take_of_length_le (by omega)] at B2
    refine (Tryd.Builder_String_any_k _ _ _ w2 B2 (Nat.le_of_lt B2.lt)).mono ?_
    rintro e w5 ⟨rfl, _, hbl, hok⟩
    exact ⟨_, rfl, by unfold hexW; rw [if_neg hne], Kp.chg ⟨hbl, hok⟩ k2 (Nat.le_refl _)⟩
/-! # numbers -/
def Tb (w : World) : Prop := Lib.TabIs Tryd.prog w "internal/strconv.uint64pow10" .u64 Lib.pow10Tab
theorem Tb.chg {w w' : World} (h : Tb w) (k : Chg none_ w w') : Tb w' := by
  unfold Tb Lib.TabIs World.var? at *
  cases hg : Tryd.prog.globalNamed "internal/strconv.uint64pow10" with
  | none => rw [hg] at h; cases h
  | some g =>
    rw [hg] at h
    simp only [Option.bind_some] at h ⊢
    have hlt : g < w.heap.size := by
      rcases Nat.lt_or_ge g w.heap.size with h1 | h1
      · exact h1
      · rw [Array.getElem?_eq_none h1] at h; cases h
    rw [k.block g hlt (fun x => x)]; exact h
theorem itoa45 {w : World} (h : Tb w) {n : Int} (h0 : 0 ≤ n) (h1 : n < 1000000000000000000) : Calls Tryd.prog 45 #[.int .i64 n] w (Ret fun v w' => v = .string (nW n) ∧ Chg none_ w w') := by
  refine Calls.mono (Tryd.strconv_Itoa n (by omega) (by omega) w h) fun e w' ⟨h1, k, os, h2⟩ => ⟨_, h1, ?_, ?_⟩
  · have : ¬ n < 0 := by omega
    simp only [Lib.itoa, if_neg this, nW]
  · rw [h2]
    have c0 : Chg none_ w (w.drewN k) := ⟨rfl, by simp, rfl, by simp, fun k hk hn => by simp⟩
    refine ⟨c0.os, c0.tape, c0.output, ?_, fun i hi _ => ?_⟩
    · show w.heap.size ≤ (w.heap ++ os).size
      simp
    · show (w.heap ++ os)[i]? = _
      rw [Array.getElem?_append_left hi]
end Go.Proofs.YtjfafkgjcgbgfaaDoor
