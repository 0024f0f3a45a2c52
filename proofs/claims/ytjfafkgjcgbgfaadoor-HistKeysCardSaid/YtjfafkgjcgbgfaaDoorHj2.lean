import Derived.Test.YtjfafkgjcgbgfaaDoorHj1
import Derived.Test.YtjfafkgjcgbgfaaDoorIter
set_option maxRecDepth 20000
namespace Go.Proofs.YtjfafkgjcgbgfaaDoor
open Go Go.Vc Go.RowKit
/-! # the library's: maps.Keys, slices.Sorted -/
section
open Go.Maps Go.Sort Go.Shelf
theorem sortsA (m : Nat) : AnyZ.SortsIn Tryd.prog Tryd.sortedA_ren Fence.wide m :=
  ⟨fun blk off cap ss W hH hblk hsz => callsIn_wide.2 (AnyM.slices_Sort_string Tryd.sortA blk off cap ss W hH hblk hsz),
   fun p cap W => callsIn_wide.2 (AnyM.slices_Sort_string_none Tryd.sortA p cap W)⟩
theorem keys40 (mb : Option Nat) (W : World) : Calls Tryd.prog 40 #[.map mb] W fun e w' => e = .returned (.func (.func 61) #[] #[.pointer (some ⟨W.heap.size, 0, none⟩)]) ∧ w' = W.alloc (.cells #[.map mb] 103) :=
  (callsIn_wide (n := 6)).1 (AnyZ.keys_in Tryd.keysA Fence.wide 6 trivial rfl mb W)
theorem sorted39 {H : Type} {b nn : Nat} {D0 : DataW H} {R : Value → Option (DataW H × List MemPlace)} {w : World} (hown : w.ownsMap Tryd.prog 9 R b nn D0) (hmax : Maps.size D0 ≤ maxLen) (hbytes : Maps.size D0 * 16 ≤ 140737488355328) :
    Calls Tryd.prog 39 #[.func (.func 61) #[] #[.pointer (some ⟨w.heap.size, 0, none⟩)]] (w.alloc (.cells #[.map (some b)] 103)) fun e w' => ∃ (v : Value) (ss : List (List UInt8)), e = .returned v ∧ ss.Perm (strKeys D0) ∧
      w'.ownsRow (w.heap.size + 1) 9 1 v ss.length ((ss.mergeSort (fun x y => decide (x ≤ y))).map encStr) ∧ Below (w.heap.size + 1) (w.alloc (.cells #[.map (some b)] 103)) w' := by
  refine (callsIn_wide (n := 5)).1 ?_
  have hbl := hown.lt
  have hseq : SeqGives Fence.wide 2 Tryd.prog 61 #[.pointer (some ⟨w.heap.size, 0, none⟩)] encStr (fun ss => ss.Perm (strKeys D0)) (Maps.size D0) (w.alloc (.cells #[.map (some b)] 103)) :=
    AnyZ.keys_gives (ρ := Tryd.keysA_ren) { Tryd.keysA with } Fence.wide _ trivial rfl (by omega) w.heap.size b nn D0 _ (by simp) (by simp) (by
      obtain ⟨es, clock, hb, Ft, hs, hD⟩ := hown
      exact ⟨es, clock, (Below.heap_alloc _ _ b hbl).trans hb, Ft, hs, hD⟩)
  have cS := AnyZ.sorted_in Tryd.sortedA Fence.wide 5 trivial trivial trivial trivial rfl (by omega) (sortsA _) (enters_of Tryd.func60 (by kernel_rfl) rfl) 61 #[.pointer (some ⟨w.heap.size, 0, none⟩)] trivial (enters_of Tryd.func61 (by kernel_rfl) rfl) _ _ hmax hbytes _ hseq
  refine cS.mono ?_
  rintro e w' ⟨v, ss, rfl, hS, hrow, _, hb⟩
  have hz : (w.alloc (.cells #[.map (some b)] 103)).heap.size = w.heap.size + 1 := by simp
  rw [hz] at hrow hb
  exact ⟨v, ss, rfl, hS, hrow, hb⟩
end
/-! # Keys of the program -/
theorem SE.ofRow {w : World} {base e n : Nat} {v : Value} {ss : List (List UInt8)} (h : w.ownsRow base e 1 v n (ss.map encStr)) : ∃ q c, v = .slice q n c ∧ SE En.str w base e q n c (ss.map bt) := by
  obtain ⟨hl, h⟩ := h
  rw [List.length_map, Nat.mul_one] at hl
  rcases h with ⟨rfl, rfl⟩ | ⟨g, cap, cur, rfl, hb, hg, h1, h2, h3, h4⟩
  · exact ⟨none, 0, rfl, by simpa using hl, .inl ⟨rfl, rfl, rfl⟩⟩
  · refine ⟨some ⟨g, 0, none⟩, cap, rfl, by simpa using hl, .inr ⟨g, 0, cur, rfl, hb, hg, h1, h2, ?_, fun i u hu => ?_⟩⟩
    · show 0 + cap * 1 ≤ cur.size
      omega
    · rw [strs_flat] at hu
      have e1 : (ss.map bt).map Value.string = ss.map encStr := by rw [List.map_map]; rfl
      rw [e1, ← h4, Nat.mul_one] at hu
      rw [Nat.zero_add, ← Array.getElem?_toList]
      rw [List.getElem?_take] at hu
      split at hu
      · exact hu
      · cases hu
theorem own_chg {H : Type} {P : Program} {k : TypeId} {R : Value → Option (DataW H × List MemPlace)} {w w' : World} {b n : Nat} {D : DataW H} (h : w.ownsMap P k R b n D) {S : Nat → Prop} (c : Chg S w w') (hS : ¬ S b) : w'.ownsMap P k R b n D := by
  have hlt := h.lt
  obtain ⟨es, clock, hh, r⟩ := h
  exact ⟨es, clock, (c.block b hlt hS).trans hh, r⟩
theorem key9 {s : ByteArray} (hs : s.size ≤ maxLen) : keyOf Tryd.prog 9 (.string s) = some (.string s.data.toList) := by
  simp [keyOf, mapKey, show Tryd.prog.underlying 9 = some .string from Tryd.underlying9, hs]
theorem wrap_wf (x : Int) : (Lit.int .i64 (IntKind.wrap .i64 x)).wf = true := by
  simp only [Lit.wf, IntKind.wrap, IntKind.min, IntKind.max, IntKind.signed, IntKind.bits, decide_eq_true_eq, Bool.and_eq_true]
  simp
  omega
section
variable {w : World} {q : Option Addr} {l c : Nat} {ms : List Mv}
theorem keys23 (H : RE En.mv w q l ms) (hl : l * 80 ≤ 140737488351232) (hs : ∀ m ∈ ms, m.key.size ≤ maxLen) :
    Calls Tryd.prog 23 #[.slice q l c] w (Ret fun v w' => ∃ q' c', v = .slice q' (refK ms).length c' ∧ SE En.str w' w.heap.size 9 q' (refK ms).length c' ((refK ms).map bt) ∧ Chg none_ w w') := by
  have hlen := H.len
  refine f23.calls _ _ _ ?_
  unfold f23.wp
  have k1 : Chg none_ w (w.alloc (.map #[] 0)) := (Chg.refl _ _).alloc _
  refine ⟨some w.heap.size, _, rfl, fun x w2 => ∃ (i nn : Nat) (D : DataW Unit), x = (i : Int) ∧ i ≤ l ∧ nn ≤ i ∧ w2.ownsMap Tryd.prog 9 (plainElem Tryd.prog 3) w.heap.size nn D ∧ (∀ x, x ∈ refK (ms.take i) ↔ Maps.has D (.string x) = true) ∧ Chg none_ w w2, fun x _ => l - x.toNat,
    ⟨0, 0, .map [], rfl, by omega, by omega, World.ownsMap_made w Tryd.prog 9 _, fun x => by simp [refK, Maps.has], k1⟩, ?_⟩
  rintro _ w2 ⟨i, nn, D, rfl, hi, hnn, O2, hD, k2⟩
  refine bc (fun g => ?_) fun g => ?_
  · have g : i < l := by simp at g; omega
    obtain ⟨p, m, hp, hm, hr⟩ := (H.chg k2).ex g
    subst hp
    have hnx := refK_next hm
    have hms := hs m (List.mem_of_getElem? hm)
    rw [wrapN (n := i) (by omega)]
    refine onPtr_mk ⟨by omega, by omega, m.kind, m.key, m.val, m.err, m.hit, m.life, m.frm, m.to, hr, boxed rfl rfl fun w4 B4 k4 s4 => ⟨_, (B4.cell 0).trans rfl, Calls.use (ofKey38 m.kind) ?_⟩⟩
    rintro _ w5 ⟨b, rfl, hb, h5⟩
    subst h5
    have O4 := own_chg O2 k4 (fun x => x)
    have k24 := k2.trans k4
    refine ⟨b, rfl, bc (fun h1 => ⟨m.key, (B4.cell0 1).trans rfl, ?_⟩) fun h1 => ⟨⟨i + 1, nn, D, rfl, by omega, by omega, O4, fun x => ?_, k24⟩, by simp only [Int.toNat_natCast]; omega⟩⟩
    · have hk : Kd m := hb.1 h1
      obtain ⟨cnt, hrun, _, _⟩ := O4.lookup_int (t := 103) (Maps.string_keyed Tryd.underlying9) Tryd.underlying103 Tryd.underlying3 (Tryd.zeroValue3 _) (key9 hms)
      obtain ⟨w7, hrun7, O7, g7⟩ := O4.update (t := 103) (e := 3) (d := .lit (.int .i64 (IntKind.wrap .i64 (cnt + 1)))) (ps := []) (Maps.string_keyed Tryd.underlying9) Tryd.underlying103 (by simp only [maxLen]; omega) (key9 hms) (plainElem_int Tryd.underlying3 (wrap_wf _))
      have k7 : Chg (fun k => k = w.heap.size) w5 w7 := ⟨g7.os, g7.tape, g7.output, g7.size, fun g hg' hne => g7.block g hg' (fun e => hne (by simpa using e))⟩
      refine ⟨cnt, _, hrun, w7, hrun7, ⟨i + 1, nn + 1, _, rfl, by omega, by omega, O7, fun x => ?_, k24.up k7 fun k hk => by omega⟩, by simp only [Int.toNat_natCast]; omega⟩
      rw [hnx, if_pos hk, insK_mem, hD x]
      by_cases e : x = m.key.data.toList
      · subst e
        rw [Maps.has_put_same O4.isMap ((Maps.string_keyed (P := Tryd.prog) Tryd.underlying9).key (key9 hms))]
        simp
      · rw [Maps.has_put_other (by simpa using e)]
        simp [e]
    · rw [hnx, if_neg (fun hh => by rw [hb.2 hh] at h1; cases h1)]; exact hD x
  · have hie : i = l := by simp at g; omega
    subst hie
    rw [List.take_of_length_le (by omega)] at hD
    have hsz := O2.size_le
    refine Calls.mono (keys40 (some w.heap.size) w2) ?_
    rintro _ w8 ⟨rfl, rfl⟩
    refine ⟨_, rfl, Calls.mono (sorted39 O2 (by simp only [maxLen]; omega) (by omega)) ?_⟩
    rintro _ w9 ⟨v, ss, rfl, hp, hrow, hbl⟩
    have k9 : Chg none_ (w2.alloc (.cells #[.map (some w.heap.size)] 103)) w9 := Chg.of_below (by simpa using hbl) _
    have k29 : Chg none_ w2 w9 := ((Chg.refl none_ w2).alloc _).trans k9
    have hsrt := refK_sorted ms ms.length (Nat.le_refl _)
    rw [List.take_length] at hsrt
    have hK := keys_same O2 Tryd.underlying9 hsrt hD hp
    rw [hK] at hrow
    have hss : ss.length = (refK ms).length := by rw [← hK, List.length_mergeSort]
    rw [hss] at hrow
    obtain ⟨q', c', rfl, S9⟩ := SE.ofRow hrow
    exact ⟨q', _, c', rfl, q', c', rfl, S9.lower (by have := k2.size; simp; omega), k2.trans k29⟩
end
end Go.Proofs.YtjfafkgjcgbgfaaDoor
