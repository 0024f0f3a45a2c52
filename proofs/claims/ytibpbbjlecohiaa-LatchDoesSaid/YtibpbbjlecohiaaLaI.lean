import Derived.Test.YtibpbbjlecohiaaLaH
import Derived.Test.YtibpbbjlecohiaaLaF
import Derived.Test.YtibpbbjlecohiaaIter
set_option maxRecDepth 20000
namespace Go.Proofs.Ytibpbbjlecohiaa
open Go Go.Vc Go.RowKit
/-! # the library's: maps.Keys, slices.Sorted, of ints -/
section
open Go.Maps Go.Sort Go.Shelf
theorem sortsA (m : Nat) : AnyZI.SortsIn Try.prog Try.sortedA_ren Fence.wide m :=
  ⟨fun blk off cap ss W hH hblk hsz => callsIn_wide.2 (AnyM.slices_Sort_int Try.sortA blk off cap ss W hH hblk hsz),
   fun p cap W => callsIn_wide.2 (AnyM.slices_Sort_int_none Try.sortA p cap W)⟩
theorem keys76 (mb : Option Nat) (W : World) : Calls Try.prog 76 #[.map mb] W fun e w' => e = .returned (.func (.func 105) #[] #[.pointer (some ⟨W.heap.size, 0, none⟩)]) ∧ w' = W.alloc (.cells #[.map mb] 87) :=
  (callsIn_wide (n := 6)).1 (AnyZI.keys_in Try.keysA Fence.wide 6 trivial rfl mb W)
theorem keys82 (mb : Option Nat) (W : World) : Calls Try.prog 82 #[.map mb] W fun e w' => e = .returned (.func (.func 108) #[] #[.pointer (some ⟨W.heap.size, 0, none⟩)]) ∧ w' = W.alloc (.cells #[.map mb] 161) :=
  (callsIn_wide (n := 6)).1 (AnyZI.keys_in Try.keysB Fence.wide 6 trivial rfl mb W)
/-- of the nil map: nil -/
theorem sorted75_nil (w : World) : Calls Try.prog 75 #[.func (.func 105) #[] #[.pointer (some ⟨w.heap.size, 0, none⟩)]] (w.alloc (.cells #[.map none] 87)) fun e w' => e = .returned (.slice none 0 0) ∧ Below (w.heap.size + 1) (w.alloc (.cells #[.map none] 87)) w' := by
  refine (callsIn_wide (n := 5)).1 ?_
  have hseq : SeqGives Fence.wide 2 Try.prog 105 #[.pointer (some ⟨w.heap.size, 0, none⟩)] encZ (fun ss : List Int => ss = []) 0 (w.alloc (.cells #[.map none] 87)) :=
    AnyZI.keys_gives_nil (ρ := Try.keysA_ren) { Try.keysA with } Fence.wide _ trivial rfl w.heap.size _ (by simp) (by simp)
  have cS := AnyZI.sorted_in Try.sortedA Fence.wide 5 trivial trivial trivial trivial rfl (by omega) (sortsA _) (enters_of Try.func104 (by kernel_rfl) rfl) 105 #[.pointer (some ⟨w.heap.size, 0, none⟩)] trivial (enters_of Try.func105 (by kernel_rfl) rfl) _ 0 (Nat.zero_le _) (by omega) _ hseq
  refine cS.mono ?_
  rintro e w' ⟨v, ss, rfl, rfl, _, hnil, hb⟩
  have hz : (w.alloc (.cells #[.map none] 87)).heap.size = w.heap.size + 1 := by simp
  rw [hz] at hb
  exact ⟨by rw [hnil.2 rfl], hb⟩
/-- of a map from ints to what has one cell -/
theorem sorted75B {H : Type} {b nn : Nat} {D0 : DataW H} {R : Value → Option (DataW H × List MemPlace)} {w : World} (hown : w.ownsMap Try.prog 3 R b nn D0) (hmax : Maps.size D0 ≤ maxLen) (hbytes : Maps.size D0 * 8 ≤ 140737488355328) :
    Calls Try.prog 75 #[.func (.func 108) #[] #[.pointer (some ⟨w.heap.size, 0, none⟩)]] (w.alloc (.cells #[.map (some b)] 161)) fun e w' => ∃ (v : Value) (ss : List Int), e = .returned v ∧ ss.Perm (intKeys D0) ∧
      w'.ownsRow (w.heap.size + 1) 3 1 v ss.length ((ss.mergeSort (fun x y => decide (x ≤ y))).map encZ) ∧ (v = .slice none 0 0 ↔ ss = []) ∧ Below (w.heap.size + 1) (w.alloc (.cells #[.map (some b)] 161)) w' := by
  refine (callsIn_wide (n := 5)).1 ?_
  have hbl := hown.lt
  have hseq : SeqGives Fence.wide 2 Try.prog 108 #[.pointer (some ⟨w.heap.size, 0, none⟩)] encZ (fun ss => ss.Perm (intKeys D0)) (Maps.size D0) (w.alloc (.cells #[.map (some b)] 161)) :=
    AnyZI.keys_gives (ρ := Try.keysB_ren) { Try.keysB with } Fence.wide _ trivial rfl (by omega) w.heap.size b nn D0 _ (by simp) (by simp) (by
      obtain ⟨es, clock, hb, Ft, hs, hD⟩ := hown
      exact ⟨es, clock, (Below.heap_alloc _ _ b hbl).trans hb, Ft, hs, hD⟩)
  have cS := AnyZI.sorted_in Try.sortedA Fence.wide 5 trivial trivial trivial trivial rfl (by omega) (sortsA _) (enters_of Try.func104 (by kernel_rfl) rfl) 108 #[.pointer (some ⟨w.heap.size, 0, none⟩)] trivial (enters_of Try.func108 (by kernel_rfl) rfl) _ _ hmax hbytes _ hseq
  refine cS.mono ?_
  rintro e w' ⟨v, ss, rfl, hS, hrow, hnil, hb⟩
  have hz : (w.alloc (.cells #[.map (some b)] 161)).heap.size = w.heap.size + 1 := by simp
  rw [hz] at hrow hb
  exact ⟨v, ss, rfl, hS, hrow, hnil, hb⟩
/-- of the map of those that wait -/
theorem sorted75A {H : Type} {b nn : Nat} {D0 : DataW H} {R : Value → Option (DataW H × List MemPlace)} {w : World} (hown : w.ownsMap Try.prog 3 R b nn D0) (hmax : Maps.size D0 ≤ maxLen) (hbytes : Maps.size D0 * 8 ≤ 140737488355328) :
    Calls Try.prog 75 #[.func (.func 105) #[] #[.pointer (some ⟨w.heap.size, 0, none⟩)]] (w.alloc (.cells #[.map (some b)] 87)) fun e w' => ∃ (v : Value) (ss : List Int), e = .returned v ∧ ss.Perm (intKeys D0) ∧
      w'.ownsRow (w.heap.size + 1) 3 1 v ss.length ((ss.mergeSort (fun x y => decide (x ≤ y))).map encZ) ∧ (v = .slice none 0 0 ↔ ss = []) ∧ Below (w.heap.size + 1) (w.alloc (.cells #[.map (some b)] 87)) w' := by
  refine (callsIn_wide (n := 5)).1 ?_
  have hbl := hown.lt
  have hseq : SeqGives Fence.wide 2 Try.prog 105 #[.pointer (some ⟨w.heap.size, 0, none⟩)] encZ (fun ss => ss.Perm (intKeys D0)) (Maps.size D0) (w.alloc (.cells #[.map (some b)] 87)) :=
    AnyZI.keys_gives (ρ := Try.keysA_ren) { Try.keysA with } Fence.wide _ trivial rfl (by omega) w.heap.size b nn D0 _ (by simp) (by simp) (by
      obtain ⟨es, clock, hb, Ft, hs, hD⟩ := hown
      exact ⟨es, clock, (Below.heap_alloc _ _ b hbl).trans hb, Ft, hs, hD⟩)
  have cS := AnyZI.sorted_in Try.sortedA Fence.wide 5 trivial trivial trivial trivial rfl (by omega) (sortsA _) (enters_of Try.func104 (by kernel_rfl) rfl) 105 #[.pointer (some ⟨w.heap.size, 0, none⟩)] trivial (enters_of Try.func105 (by kernel_rfl) rfl) _ _ hmax hbytes _ hseq
  refine cS.mono ?_
  rintro e w' ⟨v, ss, rfl, hS, hrow, hnil, hb⟩
  have hz : (w.alloc (.cells #[.map (some b)] 87)).heap.size = w.heap.size + 1 := by simp
  rw [hz] at hrow hb
  exact ⟨v, ss, rfl, hS, hrow, hnil, hb⟩
end
section
variable {w : World} {p : Option Addr}
theorem waits34c (h : Cls w p) : Calls Try.prog 34 #[.pointer p] w (Ret fun v w' => v = .slice none 0 0 ∧ Chg none_ w w') := by
  refine f34.calls _ ?_
  unfold f34.wp
  refine ⟨ptrOk_none _ _, ?_⟩
  rcases h with rfl | ⟨b, rfl, B⟩
  · exact bcT rfl ⟨rfl, Chg.refl _ _⟩
  refine bcF rfl (onPtr_mk ⟨none, (B.cell0 4).trans rfl, Calls.mono (keys76 none w) ?_⟩)
  rintro _ w1 ⟨rfl, rfl⟩
  refine ⟨_, rfl, Calls.mono (sorted75_nil w) ?_⟩
  rintro _ w2 ⟨rfl, hb⟩
  have k2 : Chg none_ w w2 := ((Chg.refl none_ w).alloc _).trans (Chg.of_below (by simpa using hb) _)
  refine ⟨_, _, _, rfl, fun q l c x w' => q = none ∧ l = 0 ∧ c = 0 ∧ x = 0 ∧ w2 = w', fun _ _ _ _ _ => 0, ⟨rfl, rfl, rfl, rfl, rfl⟩, ?_⟩
  rintro _ _ _ _ _ ⟨rfl, rfl, rfl, rfl, rfl⟩
  exact bcF rfl ⟨rfl, k2⟩
theorem arcs35c (h : Cls w p) : Calls Try.prog 35 #[.pointer p] w (Ret fun v w' => v = .slice none 0 0 ∧ Chg none_ w w') := by
  refine f35.calls _ ?_
  unfold f35.wp
  refine Calls.use (waits34c h) ?_
  rintro _ w1 ⟨rfl, k1⟩
  refine ⟨_, _, _, rfl, fun q l c x w' => q = none ∧ l = 0 ∧ c = 0 ∧ x = 0 ∧ w1 = w', fun _ _ _ _ _ => 0, ⟨rfl, rfl, rfl, rfl, rfl⟩, ?_⟩
  rintro _ _ _ _ _ ⟨rfl, rfl, rfl, rfl, rfl⟩
  exact bcF rfl ⟨rfl, k1⟩
theorem cycle42c (h : Cls w p) : Calls Try.prog 42 #[.pointer p] w (Ret fun v w' => v = .slice none 0 0 ∧ Chg none_ w w') := by
  refine f42.calls _ ?_
  unfold f42.wp
  have k1 : Chg none_ w (w.alloc (.map #[] 0)) := (Chg.refl _ _).alloc _
  refine ⟨some w.heap.size, _, rfl, Calls.use (arcs35c (h.chg k1)) ?_⟩
  rintro _ w2 ⟨rfl, k2⟩
  have O1 := World.ownsMap_made w Try.prog 3 (fun _ : Value => (none : Option (DataW Unit × List MemPlace)))
  have O2 : w2.ownsMap Try.prog 3 (fun _ : Value => (none : Option (DataW Unit × List MemPlace))) w.heap.size 0 (.map []) := by
    have hlt := O1.lt
    obtain ⟨es, clock, hh, r⟩ := O1
    exact ⟨es, clock, (k2.block _ hlt (fun x => x)).trans hh, r⟩
  refine ⟨_, _, _, rfl, fun x w' => x = 0 ∧ w2 = w', fun _ _ => 0, ⟨rfl, rfl⟩, ?_⟩
  rintro _ _ ⟨rfl, rfl⟩
  refine bcF rfl (Calls.mono (keys82 (some w.heap.size) w2) ?_)
  rintro _ w14 ⟨rfl, rfl⟩
  refine ⟨_, rfl, Calls.mono (sorted75B O2 (by simp [Maps.size]) (by simp [Maps.size])) ?_⟩
  rintro _ w15 ⟨v, ss, rfl, hp, _, hnil, hb⟩
  have hss : ss = [] := by
    have := hp.length_eq
    simpa [intKeys] using this
  obtain rfl := hnil.2 hss
  have k15 : Chg none_ w w15 := (k1.trans k2).trans (((Chg.refl none_ w2).alloc _).trans (Chg.of_below (by simpa using hb) _))
  refine ⟨_, _, _, rfl, fun q l c x w' => q = none ∧ l = 0 ∧ c = 0 ∧ x = 0 ∧ w15 = w', fun _ _ _ _ _ => 0, ⟨rfl, rfl, rfl, rfl, rfl⟩, ?_⟩
  rintro _ _ _ _ _ ⟨rfl, rfl, rfl, rfl, rfl⟩
  exact bcF rfl ⟨rfl, k15⟩
theorem closed14 {q : Option Addr} {l c : Nat} {ops : List OpV} (H : RE En.op w q l ops) (hl : l ≤ 1000000000000000000) : Calls Try.prog 14 #[.slice q l c] w (Ret fun v w' => v = .bool true ∧ Chg none_ w w') := by
  refine f14.calls _ _ _ ?_
  unfold f14.wp
  refine Calls.use (awake16 w) ?_
  rintro _ w1 ⟨rfl, k1⟩
  refine ⟨_, rfl, bcF rfl fun w2 e2 w3 e3 => ?_⟩
  have B2 := new_blk e2
  have k2 := k1.new' e2
  have k23 := (Chg.refl none_ w2).new' e3
  have B3 := new_blk e3
  have k3 := k2.trans k23
  have B23 := k23.blk B2 (fun x => x)
  refine ⟨fun x w4 => ∃ n : Nat, x = (n : Int) ∧ n ≤ 2 ∧ Chg none_ w3 w4, fun x _ => 2 - x.toNat, ⟨0, rfl, by omega, Chg.refl _ _⟩, ?_⟩
  rintro _ w4 ⟨n, rfl, hn, k4⟩
  refine bc (fun g => ?_) fun g => ⟨rfl, k3.trans k4⟩
  have g : n < 2 := by simp at g; omega
  have Bp := k4.blk B3 (fun x => x)
  have : ∃ p, w4.cell? ((⟨w2.heap.size, 0, none⟩ : Addr).add (((n : Nat) : Int).toNat * 1)) = some (.pointer p) ∧ Cls w4 p := by
    rcases n with _ | _ | n
    · exact ⟨none, (Bp.cell0 0).trans rfl, .inl rfl⟩
    · exact ⟨_, (Bp.cell0 1).trans rfl, .inr ⟨_, rfl, k4.blk B23 (fun x => x)⟩⟩
    · omega
  obtain ⟨p, hp, hC⟩ := this
  refine ⟨by omega, by omega, p, hp, fun x w5 => ∃ i : Nat, x = (i : Int) ∧ i ≤ l ∧ Chg none_ w4 w5, fun x _ => l - x.toNat, ⟨0, rfl, by omega, Chg.refl _ _⟩, ?_⟩
  rintro _ w5 ⟨i, rfl, hi, k5⟩
  refine bc (fun g1 => ?_) fun g1 => ?_
  · have g1 : i < l := by simp at g1; omega
    obtain ⟨a, o, ha, ho, hr⟩ := (H.chg (k3.trans (k4.trans k5))).ex g1
    subst ha
    rw [wrapS (x := (i : Int) + 1) (by omega) (by omega)]
    refine onPtr_mk ⟨by omega, by omega, _, _, _, _, hr, boxed rfl rfl fun w7 B7 k7 s7 => ⟨_, _, _, _, B7.reads0, Calls.use (does20c (hC.chg (k5.trans k7)) _ _ _ _) ?_⟩⟩
    rintro _ w8 ⟨e, rfl, he, k8⟩
    refine ⟨_, _, _, _, _, _, rfl, boxed rfl rfl fun w10 B10 k10 s10 => ?_⟩
    have k510 := k7.trans (k8.trans k10)
    have B710 := (k8.trans k10).blk B7 (fun x => x)
    have C10 := hC.chg (k5.trans k510)
    refine ⟨fun w11 => w10 = w11, ?_, _, (B710.cell0 1).trans rfl, ?_⟩
    · rintro _ rfl
      refine Calls.use (waits34c C10) ?_
      rintro _ w12 ⟨rfl, k12⟩
      refine ⟨_, _, _, rfl, bcF rfl ⟨_, ((k12.blk B710 (fun x => x)).cell 0).trans rfl, Calls.use (holds21c (C10.chg k12) _) ?_⟩⟩
      rintro _ w13 ⟨rfl, k13⟩
      refine ⟨_, _, _, rfl, bcF rfl (Calls.use (arcs35c (C10.chg (k12.trans k13))) ?_)⟩
      rintro _ w14 ⟨rfl, k14⟩
      refine ⟨_, _, _, rfl, bcF rfl (Calls.use (cycle42c (C10.chg (k12.trans (k13.trans k14)))) ?_)⟩
      rintro _ w15 ⟨rfl, k15⟩
      exact ⟨_, _, _, rfl, bcF rfl ⟨⟨i + 1, rfl, by omega, k5.trans (k510.trans (k12.trans (k13.trans (k14.trans k15))))⟩, by simp only [Int.toNat_natCast]; omega⟩⟩
    · refine bc (fun g2 => ⟨_, (B710.cell0 1).trans rfl, bc (fun g3 => ⟨_, (B10.cell0 3).trans rfl, bcF ?_ ⟨_, (B10.cell 0).trans rfl, bcF rfl ⟨_, _, _, (B10.cell0 1).trans rfl, bcF rfl ⟨_, (B10.cell0 2).trans rfl, bcF rfl rfl⟩⟩⟩⟩) fun g3 => ⟨_, (B10.cell 0).trans rfl, bcF rfl ⟨_, _, _, (B10.cell0 1).trans rfl, bcF rfl ⟨_, (B10.cell0 2).trans rfl, bcF rfl rfl⟩⟩⟩⟩) fun g2 => ⟨_, (B10.cell 0).trans rfl, bcF rfl ⟨_, _, _, (B10.cell0 1).trans rfl, bcF rfl ⟨_, (B10.cell0 2).trans rfl, bcF rfl rfl⟩⟩⟩
      rw [he (of_decide_eq_true g2) (of_decide_eq_true g3)]; rfl
  · have hie : i = l := by simp at g1; omega
    subst hie
    rw [wrapS (x := (n : Int) + 1) (by omega) (by omega)]
    exact ⟨⟨n + 1, rfl, by omega, k4.trans k5⟩, by simp only [Int.toNat_natCast]; omega⟩
end
end Go.Proofs.Ytibpbbjlecohiaa
