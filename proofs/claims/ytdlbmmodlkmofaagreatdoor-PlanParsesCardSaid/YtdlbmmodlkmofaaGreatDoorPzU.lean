import Derived.Test.YtdlbmmodlkmofaaGreatDoorPzT
set_option maxRecDepth 20000
namespace Go.Proofs.YtdlbmmodlkmofaaGreatDoor
open Go Go.Vc Go.RowKit
/-! # a line's words, read by the program -/
def wAt (ws : List ByteArray) (i : Nat) : ByteArray := (ws[i]?).getD (bs [])
def wFaultW : ByteArray := bs [102, 97, 117, 108, 116]
def wCrashW : ByteArray := bs [99, 114, 97, 115, 104]
def wPageW : ByteArray := bs [112, 97, 103, 101]
def faultF (ws : List ByteArray) : Option T3 := if ws.length = 4 ∧ wAt ws 0 = wFaultW then
  match wix wOp (wAt ws 1) 0, numF (wAt ws 2).data.toList, wix wFault (wAt ws 3) 0 with
  | some a, some n, some k => some ((a : Int), (n : Int), (k : Int))
  | _, _, _ => none else none
def crashF (ws : List ByteArray) : Option (Int × Int) := if ws.length = 3 ∧ wAt ws 0 = wCrashW then
  match numF (wAt ws 1).data.toList, wix (wFate.take 3) (wAt ws 2) 0 with
  | some n, some k => some ((n : Int), (k : Int))
  | _, _ => none else none
def pageF (ws : List ByteArray) : Option T3 := if 3 ≤ ws.length ∧ wAt ws 0 = wPageW then
  match numF (wAt ws 1).data.toList, wix wFate (wAt ws 2) 0 with
  | some n, some k => if k = 3 then (if ws.length = 4 then (match numF (wAt ws 3).data.toList with | some a => some ((n : Int), (k : Int), (a : Int)) | none => none) else none) else (if ws.length = 3 then some ((n : Int), (k : Int), 0) else none)
  | _, _ => none else none
/-- what is told of a fault, or a fate -/
def TV (f : Option T3) (v : Value) : Prop := ∃ a b c ok, v = .tuple #[.agg #[.int .i64 a, .int .i64 b, .int .i64 c], .bool ok] ∧ (ok = true → f = some (a, b, c)) ∧ (ok = false → f = none)
def CV (f : Option (Int × Int)) (v : Value) : Prop := ∃ a b ok, v = .tuple #[.agg #[.int .i64 a, .int .i64 b, .slice none 0 0], .bool ok] ∧ (ok = true → f = some (a, b)) ∧ (ok = false → f = none)
theorem rdW {w : World} {q : Option Addr} {l : Nat} {ws : List ByteArray} (H : RE En.str w q l ws) {i : Nat} (hi : i < l) : ∃ a, q = some a ∧ w.cell? (a.add (i * 1)) = some (.string (wAt ws i)) ∧ (a.add (i * 1)).block < w.heap.size := by
  obtain ⟨a, x, ha, hx, hr⟩ := H.ex hi
  have h1 := reads_one' hr
  have : wAt ws i = x := by rw [wAt, hx]; rfl
  exact ⟨a, ha, by rw [this]; exact h1, cell_some h1⟩
theorem ba_neN {a b : ByteArray} (h : (!(a.toList == b.toList)) = true) : a ≠ b := by
  simp only [Bool.not_eq_true'] at h; exact ba_ne h
theorem ba_eqN {a b : ByteArray} (h : (!(a.toList == b.toList)) = false) : a = b := by
  simp only [Bool.not_eq_false'] at h; exact ba_eq h
theorem fault52 {w : World} {q : Option Addr} {l c : Nat} {ws : List ByteArray} (H : RE En.str w q l ws) :
    Calls Tryz.prog 52 #[.slice q l c] w (Ret fun v w' => TV (faultF ws) v ∧ Chg none_ w w') := by
  have hlen := H.len
  refine f52.calls _ _ _ ?_
  unfold f52.wp
  refine newBox fun w1 B1 k1 _ => ?_
  have fin : ∀ {w' : World} (x y z : Int) (ok : Bool), Chg none_ w1 w' → (ok = true → faultF ws = some (x, y, z)) → (ok = false → faultF ws = none) → canStore w' (⟨w.heap.size, 0, none⟩ : Addr) 3 ∧ ∀ w3, w3 = setCells (⟨w.heap.size, 0, none⟩ : Addr) 0 [.int .i64 x, .int .i64 y, .int .i64 z] w' → ∃ n4 n5 n6 : Int, reads w3 (⟨w.heap.size, 0, none⟩ : Addr) [.int .i64 n4, .int .i64 n5, .int .i64 n6] ∧ TV (faultF ws) (.tuple #[.agg #[.int .i64 n4, .int .i64 n5, .int .i64 n6], .bool ok]) ∧ Chg none_ w w3 := fun x y z ok k h1 h2 =>
    (k.blk B1 (fun x => x)).store rfl rfl fun w3 B3 k3 _ => ⟨_, _, _, B3.reads0, ⟨_, _, _, _, rfl, h1, h2⟩, (k1.trans k).up k3 fun b hb => by rw [hb]; exact Nat.le_refl _⟩
  refine bc (fun hne => ?_) fun heq => ?_
  · have hne : l ≠ 4 := by simp at hne; omega
    exact ⟨_, _, _, B1.reads0, fin 0 0 0 false (Chg.refl _ _) (fun h => by cases h) fun _ => by rw [faultF, if_neg (by omega)]⟩
  have heq : l = 4 := by simp at heq; omega
  obtain ⟨a, rfl, r0, _⟩ := rdW (H.chg k1) (i := 0) (by omega)
  refine onPtr_mk ⟨by decide, by rw [heq]; decide, _, r0, bc (fun h => ?_) fun h => ?_⟩
  · refine ⟨_, _, _, B1.reads0, fin 0 0 0 false (Chg.refl _ _) (fun h => by cases h) fun _ => ?_⟩
    have hne : wAt ws 0 ≠ wFaultW := ba_neN h
    rw [faultF, if_neg fun hh => hne hh.2]
  have h0 : wAt ws 0 = wFaultW := ba_eqN h
  have k1d : Chg none_ w w1.drew := k1.drew
  obtain ⟨_, e, r1, b1⟩ := rdW (H.chg k1d) (i := 1) (by omega)
  cases e
  refine ⟨fun p => p.block < w1.drew.heap.size, onPtr_mk ⟨by decide, by rw [heq]; decide, _, b1, r1, Calls.use (words_op w1.drew) ?_⟩⟩
  rintro _ w4 ⟨rfl, B4, k4, _⟩
  refine ⟨_, _, _, rfl, k4.keeps, Calls.use (word72 (wAt ws 1) (RE.of_flat (xs := wOp) rfl B4.reads0) (by decide)) ?_⟩
  rintro _ w5 ⟨rfl, k5⟩
  have k45 := k4.trans k5
  obtain ⟨_, e, r2, b2⟩ := rdW (H.chg (k1d.trans k45)) (i := 2) (by omega)
  cases e
  refine ⟨_, _, rfl, k45.keeps, onPtr_mk ⟨by decide, by rw [heq]; decide, _, r2, Calls.use (number73 (wAt ws 2) w5) ?_⟩⟩
  rintro _ w6 ⟨rfl, k6⟩
  have k6d : Chg none_ w1 w6.drew := (Chg.refl none_ w1).drew.trans (k45.trans k6.drew)
  obtain ⟨_, e, r3, b3⟩ := rdW (H.chg (k1.trans k6d)) (i := 3) (by omega)
  cases e
  refine ⟨_, _, rfl, fun p => p.block < w6.drew.heap.size, onPtr_mk ⟨by decide, by rw [heq]; decide, _, b3, r3, Calls.use (words_fault w6.drew) ?_⟩⟩
  rintro _ w7 ⟨rfl, B7, k7, _⟩
  refine ⟨_, _, _, rfl, k7.keeps, Calls.use (word72 (wAt ws 3) (RE.of_flat (xs := wFault) rfl B7.reads0) (by decide)) ?_⟩
  rintro _ w8 ⟨rfl, k8⟩
  have k18 := k6d.trans (k7.trans k8)
  have hF : faultF ws = match wix wOp (wAt ws 1) 0, numF (wAt ws 2).data.toList, wix wFault (wAt ws 3) 0 with
    | some a, some n, some k => some ((a : Int), (n : Int), (k : Int))
    | _, _, _ => none := by rw [faultF, if_pos ⟨by omega, h0⟩]
  refine ⟨_, _, rfl, (k7.trans k8).keeps, ?_⟩
  rw [hF] at fin ⊢
  cases h1 : wix wOp (wAt ws 1) 0 with
  | none => rw [h1] at fin; exact bcF rfl (fin _ _ _ _ k18 (fun h => by cases h) fun _ => rfl)
  | some x1 =>
    rw [h1] at fin
    refine bcT rfl ?_
    cases h2 : numF (wAt ws 2).data.toList with
    | none => rw [h2] at fin; exact bcF rfl (fin _ _ _ _ k18 (fun h => by cases h) fun _ => rfl)
    | some x2 =>
      rw [h2] at fin
      refine bcT rfl ?_
      cases h3 : wix wFault (wAt ws 3) 0 with
      | none => rw [h3] at fin; exact fin _ _ _ _ k18 (fun h => by cases h) fun _ => rfl
      | some x3 => rw [h3] at fin; exact fin _ _ _ _ k18 (fun _ => rfl) fun h => by cases h
theorem crash53 {w : World} {q : Option Addr} {l c : Nat} {ws : List ByteArray} (H : RE En.str w q l ws) :
    Calls Tryz.prog 53 #[.slice q l c] w (Ret fun v w' => CV (crashF ws) v ∧ Chg none_ w w') := by
  have hlen := H.len
  refine f53.calls _ _ _ ?_
  unfold f53.wp
  refine newBox fun w1 B1 k1 _ => ?_
  have fin : ∀ {w' : World} (x y : Int) (ok : Bool), Chg none_ w1 w' → (ok = true → crashF ws = some (x, y)) → (ok = false → crashF ws = none) → canStore w' (⟨w.heap.size, 0, none⟩ : Addr) 3 ∧ ∀ w3, w3 = setCells (⟨w.heap.size, 0, none⟩ : Addr) 0 [.int .i64 x, .int .i64 y, .slice none 0 0] w' → ∃ n4 n5 : Int, ∃ (q2 : Option Addr) (l2 c2 : Nat), reads w3 (⟨w.heap.size, 0, none⟩ : Addr) [.int .i64 n4, .int .i64 n5, .slice q2 l2 c2] ∧ CV (crashF ws) (.tuple #[.agg #[.int .i64 n4, .int .i64 n5, .slice q2 l2 c2], .bool ok]) ∧ Chg none_ w w3 := fun x y ok k h1 h2 =>
    (k.blk B1 (fun x => x)).store rfl rfl fun w3 B3 k3 _ => ⟨_, _, _, _, _, B3.reads0, ⟨_, _, _, rfl, h1, h2⟩, (k1.trans k).up k3 fun b hb => by rw [hb]; exact Nat.le_refl _⟩
  refine bc (fun hne => ?_) fun heq => ?_
  · have hne : l ≠ 3 := by simp at hne; omega
    exact ⟨_, _, _, _, _, B1.reads0, fin 0 0 false (Chg.refl _ _) (fun h => by cases h) fun _ => by rw [crashF, if_neg (by omega)]⟩
  have heq : l = 3 := by simp at heq; omega
  obtain ⟨a, rfl, r0, _⟩ := rdW (H.chg k1) (i := 0) (by omega)
  refine onPtr_mk ⟨by decide, by rw [heq]; decide, _, r0, bc (fun h => ?_) fun h => ?_⟩
  · refine ⟨_, _, _, _, _, B1.reads0, fin 0 0 false (Chg.refl _ _) (fun h => by cases h) fun _ => ?_⟩
    have hne : wAt ws 0 ≠ wCrashW := ba_neN h
    rw [crashF, if_neg fun hh => hne hh.2]
  have h0 : wAt ws 0 = wCrashW := ba_eqN h
  obtain ⟨_, e, r1, b1⟩ := rdW (H.chg k1) (i := 1) (by omega)
  cases e
  refine onPtr_mk ⟨by decide, by rw [heq]; decide, _, r1, Calls.use (number73 (wAt ws 1) w1) ?_⟩
  rintro _ w4 ⟨rfl, k4⟩
  have k4d : Chg none_ w1 w4.drew := k4.drew
  obtain ⟨_, e, r2, b2⟩ := rdW (H.chg (k1.trans k4d)) (i := 2) (by omega)
  cases e
  refine ⟨_, _, rfl, fun p => p.block < w4.drew.heap.size, onPtr_mk ⟨by decide, by rw [heq]; decide, _, b2, r2, Calls.use (words_fate w4.drew) ?_⟩⟩
  rintro _ w5 ⟨rfl, B5, k5, _⟩
  refine ⟨_, _, _, rfl, k5.keeps, by decide, by decide, Calls.use (word72 (wAt ws 2) (RE.take (RE.of_flat (xs := wFate) rfl B5.reads0) (n := 3) (by decide)) (by decide)) ?_⟩
  rintro _ w6 ⟨rfl, k6⟩
  have k16 := k4d.trans (k5.trans k6)
  have hF : crashF ws = match numF (wAt ws 1).data.toList, wix (wFate.take 3) (wAt ws 2) 0 with
    | some n, some k => some ((n : Int), (k : Int))
    | _, _ => none := by rw [crashF, if_pos ⟨by omega, h0⟩]
  refine ⟨_, _, rfl, (k5.trans k6).keeps, ?_⟩
  rw [hF] at fin ⊢
  cases h1 : numF (wAt ws 1).data.toList with
  | none => rw [h1] at fin; exact bcF rfl (fin _ _ _ k16 (fun h => by cases h) fun _ => rfl)
  | some x1 =>
    rw [h1] at fin
    refine bcT rfl ?_
    cases h2 : wix (wFate.take 3) (wAt ws 2) 0 with
    | none => rw [h2] at fin; exact fin _ _ _ k16 (fun h => by cases h) fun _ => rfl
    | some x2 => rw [h2] at fin; exact fin _ _ _ k16 (fun _ => rfl) fun h => by cases h
theorem page54 {w : World} {q : Option Addr} {l c : Nat} {ws : List ByteArray} (H : RE En.str w q l ws) :
    Calls Tryz.prog 54 #[.slice q l c] w (Ret fun v w' => TV (pageF ws) v ∧ Chg none_ w w') := by
  have hlen := H.len
  refine f54.calls _ _ _ ?_
  unfold f54.wp
  refine newBox fun w1 B1 k1 _ => ?_
  have fin : ∀ {w' : World} {cs : Array Value} (x y z : Int) (ok : Bool), Blk w' w.heap.size 43 cs → cs.size = 3 → Chg none_ w w' → (ok = true → pageF ws = some (x, y, z)) → (ok = false → pageF ws = none) → canStore w' (⟨w.heap.size, 0, none⟩ : Addr) 3 ∧ ∀ w3, w3 = setCells (⟨w.heap.size, 0, none⟩ : Addr) 0 [.int .i64 x, .int .i64 y, .int .i64 z] w' → ∃ n4 n5 n6 : Int, reads w3 (⟨w.heap.size, 0, none⟩ : Addr) [.int .i64 n4, .int .i64 n5, .int .i64 n6] ∧ TV (pageF ws) (.tuple #[.agg #[.int .i64 n4, .int .i64 n5, .int .i64 n6], .bool ok]) ∧ Chg none_ w w3 := fun x y z ok B hz k h1 h2 =>
    B.store hz.symm (by rw [hz]; rfl) fun w3 B3 k3 _ => ⟨_, _, _, B3.reads0, ⟨_, _, _, _, rfl, h1, h2⟩, k.up k3 fun b hb => by rw [hb]; exact Nat.le_refl _⟩
  refine bc (fun hne => ?_) fun heq => ?_
  · have hne : l < 3 := by simp at hne; omega
    exact ⟨_, _, _, B1.reads0, fin 0 0 0 false B1 rfl k1 (fun h => by cases h) fun _ => by rw [pageF, if_neg (by omega)]⟩
  have heq : 3 ≤ l := by simp at heq; omega
  obtain ⟨a, rfl, r0, _⟩ := rdW (H.chg k1) (i := 0) (by omega)
  refine onPtr_mk ⟨by decide, by omega, _, r0, bc (fun h => ?_) fun h => ?_⟩
  · refine ⟨_, _, _, B1.reads0, fin 0 0 0 false B1 rfl k1 (fun h => by cases h) fun _ => ?_⟩
    have hne : wAt ws 0 ≠ wPageW := ba_neN h
    rw [pageF, if_neg fun hh => hne hh.2]
  have h0 : wAt ws 0 = wPageW := ba_eqN h
  obtain ⟨_, e, r1, b1⟩ := rdW (H.chg k1) (i := 1) (by omega)
  cases e
  refine onPtr_mk ⟨by decide, by omega, _, r1, Calls.use (number73 (wAt ws 1) w1) ?_⟩
  rintro _ w4 ⟨rfl, k4⟩
  have k4d : Chg none_ w1 w4.drew := k4.drew
  obtain ⟨_, e, r2, b2⟩ := rdW (H.chg (k1.trans k4d)) (i := 2) (by omega)
  cases e
  refine ⟨_, _, rfl, fun p => p.block < w4.drew.heap.size, onPtr_mk ⟨by decide, by omega, _, b2, r2, Calls.use (words_fate w4.drew) ?_⟩⟩
  rintro _ w5 ⟨rfl, B5, k5, _⟩
  refine ⟨_, _, _, rfl, k5.keeps, Calls.use (word72 (wAt ws 2) (RE.of_flat (xs := wFate) rfl B5.reads0) (by decide)) ?_⟩
  rintro _ w6 ⟨rfl, k6⟩
  have k16 := k4d.trans (k5.trans k6)
  have hF : pageF ws = match numF (wAt ws 1).data.toList, wix wFate (wAt ws 2) 0 with
    | some n, some k => if k = 3 then (if ws.length = 4 then (match numF (wAt ws 3).data.toList with | some a => some ((n : Int), (k : Int), (a : Int)) | none => none) else none) else (if ws.length = 3 then some ((n : Int), (k : Int), 0) else none)
    | _, _ => none := by rw [pageF, if_pos ⟨by omega, h0⟩]
  have B6 := k16.blk B1 (fun x => x)
  refine ⟨_, _, rfl, (k5.trans k6).keeps, B6.store rfl rfl fun w7 B7 k7 _ => ?_⟩
  have k07 : Chg none_ w w7 := (k1.trans k16).up k7 fun b hb => by rw [hb]; exact Nat.le_refl _
  rw [hF] at fin ⊢
  have hk0 : wix wFate (wAt ws 2) 0 = none → ((((wix wFate (wAt ws 2) 0).getD 0 : Nat) : Int) ≠ 3) := fun h => by rw [h]; decide
  refine bc (fun h3 => ⟨_, _, _, B7.reads0, ?_⟩) fun h3 => ?_
  · have h3 : (((wix wFate (wAt ws 2) 0).getD 0 : Nat) : Int) ≠ 3 := by simpa using h3
    cases h1 : numF (wAt ws 1).data.toList with
    | none => rw [h1] at fin; exact bcF rfl (fin _ _ _ _ B7 rfl k07 (fun h => by cases h) fun _ => rfl)
    | some x1 =>
      rw [h1] at fin
      refine bcT rfl ?_
      cases h2 : wix wFate (wAt ws 2) 0 with
      | none => rw [h2] at fin; exact bcF rfl (fin _ _ _ _ B7 rfl k07 (fun h => by cases h) fun _ => rfl)
      | some x2 =>
        rw [h2] at fin h3
        have h3' : x2 ≠ 3 := fun e => h3 (by rw [e]; rfl)
        simp only [if_neg h3'] at fin ⊢
        refine bcT rfl (fin _ _ _ _ B7 rfl k07 (fun h => ?_) fun h => ?_)
        · have : l = 3 := by simp at h; omega
          rw [if_pos (by omega)]; rfl
        · have : l ≠ 3 := by simp at h; omega
          rw [if_neg (by omega)]
  have h3 : (((wix wFate (wAt ws 2) 0).getD 0 : Nat) : Int) = 3 := by simpa using h3
  cases h2 : wix wFate (wAt ws 2) 0 with
  | none => exact absurd h3 (hk0 h2)
  | some x2 =>
    rw [h2] at fin h3
    have h3' : x2 = 3 := by have : ((x2 : Nat) : Int) = 3 := h3; omega
    subst h3'
    refine bc (fun h4 => ⟨_, _, _, B7.reads0, fin _ _ _ _ B7 rfl k07 (fun h => by cases h) fun _ => ?_⟩) fun h4 => ?_
    · have h4 : l ≠ 4 := by simp at h4; omega
      cases numF (wAt ws 1).data.toList with
      | none => rfl
      | some x1 => simp only [if_true]; rw [if_neg (by omega)]
    have h4 : l = 4 := by simp at h4; omega
    obtain ⟨_, e, r3, b3⟩ := rdW (H.chg k07) (i := 3) (by omega)
    cases e
    refine onPtr_mk ⟨by decide, by omega, _, r3, Calls.use (number73 (wAt ws 3) w7) ?_⟩
    rintro _ w8 ⟨rfl, k8⟩
    have B8 := k8.blk B7 (fun x => x)
    refine ⟨_, _, rfl, B8.canStore0 (by show 2 + 1 ≤ 3; decide), fun w9 e9 => ?_⟩
    obtain ⟨B9, k9⟩ := Blk.put B8 e9
    have k09 : Chg none_ w w9 := (k07.trans k8).up k9 fun b hb => by rw [hb]; exact Nat.le_refl _
    refine ⟨_, _, _, B9.reads fun j v hj => by rcases j with _ | _ | _ | j; exact hj; exact hj; exact hj; simp at hj, ?_⟩
    simp only [if_pos (show ws.length = 4 by omega)] at fin ⊢
    cases h1 : numF (wAt ws 1).data.toList with
    | none => rw [h1] at fin; exact bcF rfl (fin _ _ _ _ B9 rfl k09 (fun h => by cases h) fun _ => rfl)
    | some x1 =>
      rw [h1] at fin
      refine bcT rfl (bcT rfl ?_)
      cases h5 : numF (wAt ws 3).data.toList with
      | none => rw [h5] at fin; exact fin _ _ _ _ B9 rfl k09 (fun h => by cases h) fun _ => rfl
      | some x3 => rw [h5] at fin; exact fin _ _ _ _ B9 rfl k09 (fun _ => by rw [h2]; rfl) fun h => by cases h
end Go.Proofs.YtdlbmmodlkmofaaGreatDoor
