import Derived.Test.YtdlbmmodlkmofaaDoorPlS
set_option maxRecDepth 20000
namespace Go.Proofs.YtdlbmmodlkmofaaDoor
open Go Go.Vc Go.RowKit
theorem zero37 (w : World) : (zeroValue 37).run Tryd.prog w = .ok (.agg #[.int .i64 0, .int .i64 0, .int .i64 0]) w := by kernel_rfl
theorem zero44 (w : World) : (zeroValue 44).run Tryd.prog w = .ok (.agg #[.int .i64 0, .int .i64 0, .int .i64 0]) w := by kernel_rfl
theorem zero42 (w : World) : (zeroValue 42).run Tryd.prog w = .ok (.agg #[.int .i64 0, .int .i64 0, .slice none 0 0]) w := by kernel_rfl
theorem one37 : ∀ v ∈ (Value.agg #[.int .i64 0, .int .i64 0, .int .i64 0]).cells.toList, v.oneCell' = true := by
  intro v hv
  simp [Value.cells] at hv
  subst hv; rfl
theorem one42 : ∀ v ∈ (Value.agg #[.int .i64 0, .int .i64 0, .slice none 0 0]).cells.toList, v.oneCell' = true := by
  intro v hv
  simp [Value.cells] at hv
  rcases hv with rfl | rfl <;> rfl
theorem delete56 {w : World} {base : Nat} {q : Option Addr} {l c i : Nat} {xs : List T3} (h : SE En.t3 w base 37 q l c xs) (hi : i < l) (hl : l ≤ 9223372036854775806) :
    Calls Tryd.prog 56 #[.slice q l c, .int .i64 (i : Int), .int .i64 ((i : Int) + 1)] w (Ret fun v w' => v = .slice q (l - 1) c ∧ SE En.t3 w' base 37 q (l - 1) c (er xs i) ∧ Chg (fun k => some k = qB q) w w') := by
  refine f56.calls _ _ _ _ _ ?_
  unfold f56.wp
  have hle := h.le
  have hlen := h.len
  have hq : q ≠ none := fun hq => by
    obtain ⟨a, ha, _⟩ := h.can (i := 0) (by omega)
    rw [hq] at ha; cases ha
  obtain ⟨q', l', c', hr⟩ := run_sliceAt_ijn (P := Tryd.prog) elemFault q l c i (i + 1) l (by omega) (by omega) (by omega) w
  refine ⟨q', l', c', w, hr, bcF (by simp; omega) ⟨by omega, by omega, by omega, by omega, ?_⟩⟩
  have h0 := (h.take (n := i) (by omega)).drew
  have h1 := (h.re.cut (n := i + 1) (c := c) (by omega) hle).drew
  obtain ⟨w2, hrun, S2, k2⟩ := SE.appendIn (P := Tryd.prog) (t := 25) (ty := 25) (c2 := c - (i + 1)) h0 elemFault h1 (by omega)
  have el : i + (l - (i + 1)) = l - 1 := by omega
  rw [el] at hrun S2
  have et : Int.toNat (i : Int) = i := by omega
  have et1 : Int.toNat ((i : Int) + 1) = i + 1 := by omega
  rw [et, et1]
  refine ⟨_, _, _, w2, hrun, by omega, by omega, by omega, by omega, ?_⟩
  obtain ⟨w3, hrun3, S3, k3⟩ := SE.clear1 (P := Tryd.prog) (t := 25) (ty := 0) S2 hq Tryd.underlying25 zero37 one37 rfl (by omega)
  have e1 : Int.toNat (l : Int) - Int.toNat ((l - 1 : Nat) : Int) = 1 := by omega
  refine ⟨w3, ?_, rfl, S3, k2.of_drew.trans k3⟩
  rw [e1]
  exact hrun3
theorem delete57 {w : World} {base : Nat} {q : Option Addr} {l c i : Nat} {xs : List CrH} (h : SE En.crh w base 42 q l c xs) (hi : i < l) (hl : l ≤ 9223372036854775806) :
    Calls Tryd.prog 57 #[.slice q l c, .int .i64 (i : Int), .int .i64 ((i : Int) + 1)] w (Ret fun v w' => v = .slice q (l - 1) c ∧ SE En.crh w' base 42 q (l - 1) c (er xs i) ∧ Chg (fun k => some k = qB q) w w') := by
  refine f57.calls _ _ _ _ _ ?_
  unfold f57.wp
  have hle := h.le
  have hlen := h.len
  have hq : q ≠ none := fun hq => by
    obtain ⟨a, ha, _⟩ := h.can (i := 0) (by omega)
    rw [hq] at ha; cases ha
  obtain ⟨q', l', c', hr⟩ := run_sliceAt_ijn (P := Tryd.prog) elemCrash q l c i (i + 1) l (by omega) (by omega) (by omega) w
  refine ⟨q', l', c', w, hr, bcF (by simp; omega) ⟨by omega, by omega, by omega, by omega, ?_⟩⟩
  have h0 := (h.take (n := i) (by omega)).drew
  have h1 := (h.re.cut (n := i + 1) (c := c) (by omega) hle).drew
  obtain ⟨w2, hrun, S2, k2⟩ := SE.appendIn (P := Tryd.prog) (t := 26) (ty := 26) (c2 := c - (i + 1)) h0 elemCrash h1 (by omega)
  have el : i + (l - (i + 1)) = l - 1 := by omega
  rw [el] at hrun S2
  have et : Int.toNat (i : Int) = i := by omega
  have et1 : Int.toNat ((i : Int) + 1) = i + 1 := by omega
  rw [et, et1]
  refine ⟨_, _, _, w2, hrun, by omega, by omega, by omega, by omega, ?_⟩
  obtain ⟨w3, hrun3, S3, k3⟩ := SE.clear1 (P := Tryd.prog) (t := 26) (ty := 0) S2 hq Tryd.underlying26 zero42 one42 rfl (by omega)
  have e1 : Int.toNat (l : Int) - Int.toNat ((l - 1 : Nat) : Int) = 1 := by omega
  refine ⟨w3, ?_, rfl, S3, k2.of_drew.trans k3⟩
  rw [e1]
  exact hrun3
theorem delete58 {w : World} {base : Nat} {q : Option Addr} {l c i : Nat} {xs : List T3} (h : SE En.t3 w base 44 q l c xs) (hi : i < l) (hl : l ≤ 9223372036854775806) :
    Calls Tryd.prog 58 #[.slice q l c, .int .i64 (i : Int), .int .i64 ((i : Int) + 1)] w (Ret fun v w' => v = .slice q (l - 1) c ∧ SE En.t3 w' base 44 q (l - 1) c (er xs i) ∧ Chg (fun k => some k = qB q) w w') := by
  refine f58.calls _ _ _ _ _ ?_
  unfold f58.wp
  have hle := h.le
  have hlen := h.len
  have hq : q ≠ none := fun hq => by
    obtain ⟨a, ha, _⟩ := h.can (i := 0) (by omega)
    rw [hq] at ha; cases ha
  obtain ⟨q', l', c', hr⟩ := run_sliceAt_ijn (P := Tryd.prog) elemFate q l c i (i + 1) l (by omega) (by omega) (by omega) w
  refine ⟨q', l', c', w, hr, bcF (by simp; omega) ⟨by omega, by omega, by omega, by omega, ?_⟩⟩
  have h0 := (h.take (n := i) (by omega)).drew
  have h1 := (h.re.cut (n := i + 1) (c := c) (by omega) hle).drew
  obtain ⟨w2, hrun, S2, k2⟩ := SE.appendIn (P := Tryd.prog) (t := 40) (ty := 40) (c2 := c - (i + 1)) h0 elemFate h1 (by omega)
  have el : i + (l - (i + 1)) = l - 1 := by omega
  rw [el] at hrun S2
  have et : Int.toNat (i : Int) = i := by omega
  have et1 : Int.toNat ((i : Int) + 1) = i + 1 := by omega
  rw [et, et1]
  refine ⟨_, _, _, w2, hrun, by omega, by omega, by omega, by omega, ?_⟩
  obtain ⟨w3, hrun3, S3, k3⟩ := SE.clear1 (P := Tryd.prog) (t := 40) (ty := 0) S2 hq Tryd.underlying40 zero44 one37 rfl (by omega)
  have e1 : Int.toNat (l : Int) - Int.toNat ((l - 1 : Nat) : Int) = 1 := by omega
  refine ⟨w3, ?_, rfl, S3, k2.of_drew.trans k3⟩
  rw [e1]
  exact hrun3
theorem clone84 {w : World} {q : Option Addr} {l c : Nat} {xs : List T3} (H : RE En.t3 w q l xs) (hl : l * 24 ≤ 140737488351232) :
    Calls Tryd.prog 84 #[.slice q l c] w (Ret fun v w' => ∃ q' c', v = .slice q' l c' ∧ SE En.t3 w' w.heap.size 37 q' l c' xs ∧ Chg none_ w w') := by
  refine f84.calls _ _ _ ?_
  unfold f84.wp
  refine ⟨_, w, run_eqnil Tryd.underlying25 q l c, ?_⟩
  refine bc (fun hn => ?_) (fun hn => ?_)
  · have hq' : q = none := by simpa using hn
    have h0 : l = 0 := by
      rcases Nat.eq_zero_or_pos l with h | h
      · exact h
      · obtain ⟨a, _, ha, _⟩ := H.ex h
        rw [hq'] at ha; cases ha
    subst h0 hq'
    have hx : xs = [] := List.eq_nil_of_length_eq_zero H.len
    subst hx
    exact ⟨none, 0, rfl, SE.nil _ _ _ _, Chg.refl _ _⟩
  intro w1 e1
  have B1 := new_blk e1
  have k1 := (Chg.refl none_ w).new' e1
  have s1 : SE En.t3 w1 w.heap.size 37 (some ⟨w.heap.size, 0, none⟩) 0 0 [] := SE.lit B1 (Nat.le_refl _) (fun n v hv => by simp [En.flat] at hv) rfl (Nat.le_refl _) (Nat.zero_le _) (by simp)
  obtain ⟨q', c', w2, hr, s2, k2, _⟩ := s1.append (t := 25) (ty := 25) (m := l) (c2 := c) elemFault (H.chg k1) (by simp only [maxLen]; omega) (by omega) k1.size
  rw [Nat.zero_add] at hr s2
  exact ⟨q', l, c', w2, hr, q', c', rfl, by simpa using s2, Chg.up k1 k2 (fun k hk => by simp [qB] at hk; omega)⟩
theorem clone60 {w : World} {q : Option Addr} {l c : Nat} {xs : List CrH} (H : RE En.crh w q l xs) (hl : l * 40 ≤ 140737488351232) :
    Calls Tryd.prog 60 #[.slice q l c] w (Ret fun v w' => ∃ q' c', v = .slice q' l c' ∧ SE En.crh w' w.heap.size 42 q' l c' xs ∧ Chg none_ w w') := by
  refine f60.calls _ _ _ ?_
  unfold f60.wp
  refine ⟨_, w, run_eqnil Tryd.underlying26 q l c, ?_⟩
  refine bc (fun hn => ?_) (fun hn => ?_)
  · have hq' : q = none := by simpa using hn
    have h0 : l = 0 := by
      rcases Nat.eq_zero_or_pos l with h | h
      · exact h
      · obtain ⟨a, _, ha, _⟩ := H.ex h
        rw [hq'] at ha; cases ha
    subst h0 hq'
    have hx : xs = [] := List.eq_nil_of_length_eq_zero H.len
    subst hx
    exact ⟨none, 0, rfl, SE.nil _ _ _ _, Chg.refl _ _⟩
  intro w1 e1
  have B1 := new_blk e1
  have k1 := (Chg.refl none_ w).new' e1
  have s1 : SE En.crh w1 w.heap.size 42 (some ⟨w.heap.size, 0, none⟩) 0 0 [] := SE.lit B1 (Nat.le_refl _) (fun n v hv => by simp [En.flat] at hv) rfl (Nat.le_refl _) (Nat.zero_le _) (by simp)
  obtain ⟨q', c', w2, hr, s2, k2, _⟩ := s1.append (t := 26) (ty := 26) (m := l) (c2 := c) elemCrash (H.chg k1) (by simp only [maxLen]; omega) (by omega) k1.size
  rw [Nat.zero_add] at hr s2
  exact ⟨q', l, c', w2, hr, q', c', rfl, by simpa using s2, Chg.up k1 k2 (fun k hk => by simp [qB] at hk; omega)⟩
theorem clone85 {w : World} {q : Option Addr} {l c : Nat} {xs : List T3} (H : RE En.t3 w q l xs) (hl : l * 24 ≤ 140737488351232) :
    Calls Tryd.prog 85 #[.slice q l c] w (Ret fun v w' => ∃ q' c', v = .slice q' l c' ∧ SE En.t3 w' w.heap.size 44 q' l c' xs ∧ Chg none_ w w') := by
  refine f85.calls _ _ _ ?_
  unfold f85.wp
  refine ⟨_, w, run_eqnil Tryd.underlying40 q l c, ?_⟩
  refine bc (fun hn => ?_) (fun hn => ?_)
  · have hq' : q = none := by simpa using hn
    have h0 : l = 0 := by
      rcases Nat.eq_zero_or_pos l with h | h
      · exact h
      · obtain ⟨a, _, ha, _⟩ := H.ex h
        rw [hq'] at ha; cases ha
    subst h0 hq'
    have hx : xs = [] := List.eq_nil_of_length_eq_zero H.len
    subst hx
    exact ⟨none, 0, rfl, SE.nil _ _ _ _, Chg.refl _ _⟩
  intro w1 e1
  have B1 := new_blk e1
  have k1 := (Chg.refl none_ w).new' e1
  have s1 : SE En.t3 w1 w.heap.size 44 (some ⟨w.heap.size, 0, none⟩) 0 0 [] := SE.lit B1 (Nat.le_refl _) (fun n v hv => by simp [En.flat] at hv) rfl (Nat.le_refl _) (Nat.zero_le _) (by simp)
  obtain ⟨q', c', w2, hr, s2, k2, _⟩ := s1.append (t := 40) (ty := 40) (m := l) (c2 := c) elemFate (H.chg k1) (by simp only [maxLen]; omega) (by omega) k1.size
  rw [Nat.zero_add] at hr s2
  exact ⟨q', l, c', w2, hr, q', c', rfl, by simpa using s2, Chg.up k1 k2 (fun k hk => by simp [qB] at hk; omega)⟩
/-! # spoil -/
theorem onPtr_eq {q : Option Addr} {a : Addr} {C : Addr → Prop} (h : q = some a) (hc : C a) : onPtr q C := by subst h; exact onPtr_mk hc
/-- crashes whose fates may be written from the i-th on -/
structure Wr (S : Nat → Prop) (w : World) (base : Nat) (q : Option Addr) (l c i : Nat) (hs : List CrH) : Prop where
  se : SE En.crh w base 42 q l c hs
  d : Dst hs
  f : ∀ (j : Nat) (h : CrH), i ≤ j → hs[j]? = some h → h.l ≤ 1000000000000000000 ∧ ∃ fs, SE En.t3 w base 44 h.q h.l h.c fs
  u : ∀ (j : Nat) (h : CrH), i ≤ j → hs[j]? = some h → ∀ g, qB h.q = some g → S g
section
variable {S : Nat → Prop} {w w' : World} {base : Nat} {q : Option Addr} {l c i : Nat} {hs : List CrH}
theorem Wr.far (h : Wr S w base q l c i hs) {S1 : Nat → Prop} (k : Chg S1 w w') (h1 : ∀ g, qB q = some g → ¬ S1 g) (h2 : ∀ (j : Nat) (x : CrH), i ≤ j → hs[j]? = some x → ∀ g, qB x.q = some g → ¬ S1 g) : Wr S w' base q l c i hs :=
  ⟨h.se.chg k h1, h.d, fun j x hj hx => by
    obtain ⟨hl, fs, hf⟩ := h.f j x hj hx
    exact ⟨hl, fs, hf.chg k (h2 j x hj hx)⟩, h.u⟩
theorem Dst.set {x : CrH} (h : Dst hs) (hx : x.q = none) : Dst (hs.set i x) := fun a b u v hab hu hv g hg e => by
  rw [List.getElem?_set] at hu hv
  split at hu
  · split at hu
    · cases hu; rw [hx] at hg; cases hg
    · cases hu
  · split at hv
    · split at hv
      · cases hv; rw [hx] at e; cases e
      · cases hv
    · exact h a b u v hab hu hv g hg e
theorem Dst.keep {x y : CrH} (h : Dst hs) (hy : hs[i]? = some y) (hx : x.q = y.q) : Dst (hs.set i x) := fun a b u v hab hu hv g hg e => by
  rw [List.getElem?_set] at hu hv
  split at hu
  · rename_i ha
    split at hu
    · cases hu
      split at hv
      · omega
      · subst ha
        exact h i b y v hab hy hv g (by rw [← hx]; exact hg) e
    · cases hu
  · split at hv
    · rename_i hb
      split at hv
      · cases hv
        subst hb
        exact h a i u y hab hu hy g hg (by rw [← hx]; exact e)
      · cases hv
    · exact h a b u v hab hu hv g hg e
end
theorem spoil29 {S : Nat → Prop} {w : World} {base : Nat} {q1 q2 : Option Addr} {l1 c1 l2 c2 : Nat} {fs : List T3} {hs : List CrH} (h1 : SE En.t3 w base 37 q1 l1 c1 fs) (h2 : Wr S w base q2 l2 c2 0 hs) (hl1 : l1 ≤ 1000000000000000000) (hl2 : l2 ≤ 1000000000000000000) (u1 : ∀ g, qB q1 = some g → S g) (u2 : ∀ g, qB q2 = some g → S g) :
    Calls Tryd.prog 29 #[.agg #[.slice q1 l1 c1, .slice q2 l2 c2]] w (Ret fun v w' => v = .tuple #[] ∧ Chg S w w') := by
  refine f29.calls _ _ _ _ _ _ ?_
  unfold f29.wp
  refine newBox fun w1 B1 k1 z1 => ?_
  have n28 : ∀ {w' : World} {fs : List T3} {e : TypeId} {b0 : Nat} {q : Option Addr} {l c : Nat}, SE En.t3 w' b0 e q l c fs → e ≠ 28 → Blk w' w.heap.size 28 #[.slice q1 l1 c1, .slice q2 l2 c2] → ¬ (some w.heap.size = qB q) := fun S he B e => SE.ne S B (Ne.symm he) _ e.symm rfl
  refine ⟨q1, l1, c1, (B1.cell 0).trans rfl, fun x w' => ∃ (i : Nat) (fs : List T3), x = (i : Int) ∧ i ≤ l1 ∧ SE En.t3 w' base 37 q1 l1 c1 fs ∧ Wr S w' base q2 l2 c2 0 hs ∧ Blk w' w.heap.size 28 #[.slice q1 l1 c1, .slice q2 l2 c2] ∧ Chg S w w', fun x _ => l1 - x.toNat,
    ⟨0, fs, rfl, by omega, h1.chgN k1, h2.far k1 (fun _ _ x => x) (fun _ _ _ _ _ _ x => x), B1, k1.of_none _⟩, ?_⟩
  rintro _ w2 ⟨i, fs2, rfl, hi, S2, W2, B2, k2⟩
  refine bc (fun g => ?_) fun g => ?_
  · have g : i < l1 := by simp at g; omega
    obtain ⟨a, ha, hcan⟩ := S2.can g
    have hc0 := hcan 0 3 (by decide)
    rw [add_zero'] at hc0
    refine ⟨q1, l1, c1, (B2.cell 0).trans rfl, ?_⟩
    subst ha
    refine onPtr_mk ⟨by omega, by omega, hc0, fun w3 e3 => ?_⟩
    obtain ⟨S3, k3⟩ := S2.set rfl (i := i) (x' := (IntKind.wrap .i64 ((-1) - (i : Int)), 0, 0)) g e3
    rw [wrapS (x := (i : Int) + 1) (by omega) (by omega)]
    refine ⟨⟨i + 1, _, by omega, by omega, S3, W2.far k3 (fun g hg e => SE.ne2 W2.se S2 (by decide) g hg e) (fun j x hj hx g hg e => ?_), k3.blk B2 (n28 S2 (by decide) B2), k2.trans (k3.mono fun k _ hk => u1 k hk.symm)⟩, by simp only [Int.toNat_natCast]; omega⟩
    obtain ⟨_, fs', hf⟩ := W2.f j x hj hx
    exact SE.ne2 hf S2 (by decide) g hg e
  clear g hi
  refine ⟨q2, l2, c2, (B2.cell0 1).trans rfl, fun x w' => ∃ (i : Nat) (hs : List CrH), x = (i : Int) ∧ i ≤ l2 ∧ Wr S w' base q2 l2 c2 i hs ∧ Blk w' w.heap.size 28 #[.slice q1 l1 c1, .slice q2 l2 c2] ∧ Chg S w w', fun x _ => l2 - x.toNat,
    ⟨0, hs, rfl, by omega, W2, B2, k2⟩, ?_⟩
  rintro _ w4 ⟨i, hs4, rfl, hi4, W4, B4, k4⟩
  refine bc (fun g => ?_) fun g => ⟨rfl, k4⟩
  have g : i < l2 := by simp at g; omega
  obtain ⟨a, x, ha, hx, hr⟩ := W4.se.re.ex g
  obtain ⟨hxl, fs4, S4⟩ := W4.f i x (Nat.le_refl _) hx
  have cellF : ∀ {w' : World}, SE En.crh w' base 42 (some a) l2 c2 hs4 → w'.cell? ((a.add (((i : Nat) : Int).toNat * 3)).add 2) = some (.slice x.q x.l x.c) := fun S => by
    obtain ⟨a', ha', hr'⟩ := S.re.get i x hx
    cases ha'
    exact hr' 2 _ rfl
  refine ⟨q2, l2, c2, (B4.cell0 1).trans rfl, ?_⟩
  subst ha
  refine onPtr_mk ⟨by omega, by omega, x.q, x.l, x.c, cellF W4.se, fun y w' => ∃ (k : Nat) (fs : List T3), y = (k : Int) ∧ k ≤ x.l ∧ Wr S w' base (some a) l2 c2 (i + 1) hs4 ∧ SE En.t3 w' base 44 x.q x.l x.c fs ∧ Blk w' w.heap.size 28 #[.slice q1 l1 c1, .slice (some a) l2 c2] ∧ Chg S w w', fun y _ => x.l - y.toNat,
    ⟨0, fs4, rfl, by omega, ⟨W4.se, W4.d, fun j h hj hh => W4.f j h (by omega) hh, fun j h hj hh => W4.u j h (by omega) hh⟩, S4, B4, k4⟩, ?_⟩
  rintro _ w5 ⟨k, fs5, rfl, hk, W5, S5, B5, k5⟩
  refine bc (fun g1 => ?_) fun g1 => ?_
  · have g1 : k < x.l := by simp at g1; omega
    obtain ⟨b, hb', hcan⟩ := S5.can g1
    have hc0 := hcan 0 3 (by decide)
    rw [add_zero'] at hc0
    refine ⟨some a, l2, c2, (B5.cell0 1).trans rfl, onPtr_mk ⟨by omega, by omega, x.q, x.l, x.c, cellF W5.se, ?_⟩⟩
    refine onPtr_eq hb' ⟨by omega, by omega, hc0, fun w6 e6 => ?_⟩
    obtain ⟨S6, k6⟩ := S5.set hb' (i := k) (x' := (IntKind.wrap .i64 ((-1) - (k : Int)), 0, 0)) g1 e6
    rw [wrapS (x := (k : Int) + 1) (by omega) (by omega)]
    refine ⟨⟨k + 1, _, by omega, by omega, W5.far k6 (fun g hg e => SE.ne2 W5.se S5 (by decide) g hg e) (fun j y hj hy g hg e => ?_), S6, k6.blk B5 (fun e => SE.ne S5 B5 (by decide) _ e.symm rfl), k5.trans (k6.mono fun k _ hk => W4.u i x (Nat.le_refl _) hx k hk.symm)⟩, by simp only [Int.toNat_natCast]; omega⟩
    exact W5.d i j x y (by omega) hx hy g e.symm hg
  · obtain ⟨a5, ha5, hcan⟩ := W5.se.can g
    cases ha5
    have hc0 := hcan 0 1 (by decide)
    rw [add_zero'] at hc0
    refine ⟨some a, l2, c2, (B5.cell0 1).trans rfl, onPtr_mk ⟨by omega, by omega, hc0, fun w7 e7 => ?_⟩⟩
    obtain ⟨S7, k7⟩ := W5.se.setAt (w' := w7) rfl (i := i) (o := 0) (x' := ⟨IntKind.wrap .i64 ((-1) - (i : Int)), x.rest, x.q, x.l, x.c⟩) (vs := [.int .i64 (IntKind.wrap .i64 ((-1) - (i : Int)))]) hx (Nat.le_of_ble_eq_true rfl) (fun j => by rcases j with _ | _ | _ | j <;> rfl) (by rw [add_zero']; exact e7)
    have B7 := k7.blk B5 (fun e => SE.ne W5.se B5 (by decide) _ e.symm rfl)
    have hx7 : (hs4.set i ⟨IntKind.wrap .i64 ((-1) - (i : Int)), x.rest, x.q, x.l, x.c⟩)[i]? = some ⟨IntKind.wrap .i64 ((-1) - (i : Int)), x.rest, x.q, x.l, x.c⟩ := List.getElem?_set_self (get_lt hx)
    obtain ⟨a7, ha7, hcan7⟩ := S7.can g
    cases ha7
    refine ⟨some a, l2, c2, (B7.cell0 1).trans rfl, onPtr_mk ⟨by omega, by omega, hcan7 2 1 (by decide), fun w8 e8 => ?_⟩⟩
    obtain ⟨S8, k8⟩ := S7.setAt (w' := w8) rfl (i := i) (o := 2) (x' := ⟨IntKind.wrap .i64 ((-1) - (i : Int)), x.rest, none, 0, 0⟩) (vs := [.slice none 0 0]) hx7 (Nat.le_of_ble_eq_true rfl) (fun j => by rcases j with _ | _ | _ | j <;> rfl) e8
    rw [List.set_set] at S8
    rw [wrapS (x := (i : Int) + 1) (by omega) (by omega)]
    have k78 := k7.trans k8
    refine ⟨⟨i + 1, _, by omega, by omega, ⟨S8, W5.d.set rfl, fun j y hj hy => ?_, fun j y hj hy => W5.u j y hj (by rw [List.getElem?_set_ne (by omega)] at hy; exact hy)⟩, k8.blk B7 (fun e => SE.ne S7 B7 (by decide) _ e.symm rfl), k5.trans (k78.mono fun k _ hk => u2 k hk.symm)⟩, by simp only [Int.toNat_natCast]; omega⟩
    rw [List.getElem?_set_ne (by omega)] at hy
    obtain ⟨hyl, fy, hf⟩ := W5.f j y hj hy
    exact ⟨hyl, fy, hf.chg k78 fun g hg e => SE.ne2 hf W5.se (by decide) g hg e⟩
end Go.Proofs.YtdlbmmodlkmofaaDoor
