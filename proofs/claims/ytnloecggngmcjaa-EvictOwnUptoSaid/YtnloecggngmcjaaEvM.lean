import Derived.Test.YtnloecggngmcjaaEvL
import Derived.Test.YtnloecggngmcjaaEvK
set_option maxRecDepth 20000
namespace Go.Proofs.Ytnloecggngmcjaa
open Go Go.Vc Go.RowKit Go.Vc.Ring
/-- where nobody is marked but by the clock -/
def Plain (kind : Int) (l : Ln) : Prop := kind = 3 ∨ ∀ e ∈ l, e.2 = false
theorem Plain.puts {k : Int} {n : Nat} {l : Ln} (h : Plain k l) (z : Int) : Plain k (sealL n l z).2 := by
  rcases h with h | h
  · exact .inl h
  · refine .inr fun e he => ?_
    simp only [sealL] at he
    split at he
    · split at he
      · exact h e he
      · simp at he; rcases he with he | he
        · exact h e he
        · rw [he]
    · exact h e he
theorem Plain.hits {k : Int} {l : Ln} (h : Plain k l) (z : Int) : Plain k (hitL k l z).2 := by
  rcases h with h | h
  · exact .inl h
  · by_cases h3 : k = 3
    · exact .inl h3
    refine .inr fun e he => ?_
    simp only [hitL] at he
    split at he
    · split at he
      · simp only [rem, one, List.mem_append, List.mem_filter] at he
        rcases he with he | he <;> exact h e he.1
      · exact h e he
    · exact h e he
theorem Plain.frees {k : Int} {n : Nat} {l : Ln} (h : Plain k l) (z : Int) : Plain k (freeL n l z).2 := by
  rcases h with h | h
  · exact .inl h
  · refine .inr fun e he => ?_
    simp only [freeL] at he
    split at he
    · split at he
      · exact h e (List.mem_filter.1 he).1
      · exact h e he
    · exact h e he
theorem Plain.rots {k : Int} {l : Ln} (h : Plain k l) : Plain k (rotL l) := by
  rcases h with h | h
  · exact .inl h
  · refine .inr fun e he => ?_
    simp only [rotL, List.mem_append, List.mem_map] at he
    rcases he with he | ⟨_, _, rfl⟩
    · exact h e (List.dropWhile_sublist _ |>.mem he)
    · rfl
theorem has_mem {l : Ln} {z : Int} : has l z = true ↔ ∃ m, (z, m) ∈ l := by
  simp only [Ytnloecggngmcjaa.has, List.any_eq_true, beq_iff_eq]
  constructor
  · rintro ⟨⟨a, m⟩, he, rfl⟩; exact ⟨m, he⟩
  · rintro ⟨m, he⟩; exact ⟨_, he, rfl⟩
theorem nodup_pair {l : Ln} (h : (l.map (·.1)).Nodup) {z : Int} {a b : Bool} (ha : (z, a) ∈ l) (hb : (z, b) ∈ l) : a = b := by
  induction l with
  | nil => cases ha
  | cons e l ih =>
    simp only [List.map_cons, List.nodup_cons] at h
    rcases List.mem_cons.1 ha with ha | ha <;> rcases List.mem_cons.1 hb with hb | hb
    · rw [← ha] at hb; simpa using hb.symm
    · exact absurd (List.mem_map.2 ⟨_, hb, by rw [← ha]⟩) h.1
    · exact absurd (List.mem_map.2 ⟨_, ha, by rw [← hb]⟩) h.1
    · exact ih h.2 ha hb
theorem drop_nil {l : Ln} (h : l.dropWhile (·.2) = []) : ∀ x ∈ l, x.2 = true := by
  induction l with
  | nil => intro x hx; cases hx
  | cons a l ih =>
    rw [List.dropWhile_cons] at h
    split at h
    · rename_i ha
      intro x hx
      rcases List.mem_cons.1 hx with rfl | hx
      · exact ha
      · exact ih h x hx
    · cases h
/-- the head of a turned line: unmarked before, or all were marked -/
theorem rot_head {l : Ln} {e : Int × Bool} {t : Ln} (h : rotL l = e :: t) : (e.1, false) ∈ l ∨ ((∀ x ∈ l, x.2 = true) ∧ ∃ m s, l = (e.1, m) :: s) := by
  unfold rotL at h
  cases hd : l.dropWhile (·.2) with
  | nil =>
    rw [hd, List.nil_append] at h
    have hall : ∀ x ∈ l, x.2 = true := drop_nil hd
    refine .inr ⟨hall, ?_⟩
    cases l with
    | nil => simp at h
    | cons a s => 
      have ha := hall a (by simp)
      simp [ha] at h
      refine ⟨a.2, s, ?_⟩
      rw [← h.1]
  | cons a s =>
    rw [hd] at h
    simp at h
    obtain ⟨rfl, _⟩ := h
    have h1 := List.head?_dropWhile_not (p := (·.2)) (l := l)
    rw [hd] at h1
    simp at h1
    have h2 : a ∈ l := List.dropWhile_sublist _ |>.mem (by rw [hd]; simp)
    refine .inl ?_
    rw [← h1]; exact h2
structure Keen (W : World) (B : Nat) (k : Int) (v : Vi) (w : World) : Prop where
  G : Good W B v w
  kind : v.kind = k
  plain : Plain k v.line
theorem rot_len (l : Ln) : (rotL l).length = l.length := by
  have hh := congrArg List.length (List.takeWhile_append_dropWhile (p := fun e : Int × Bool => e.2) (l := l))
  rw [List.length_append] at hh
  simp only [rotL, List.length_append, List.length_map]
  omega
theorem rot_nil {l : Ln} (h : l ≠ []) : rotL l ≠ [] := fun hc => by
  have := rot_len l
  rw [hc] at this
  exact h (List.eq_nil_of_length_eq_zero this.symm)
theorem spares5 (w : World) (k n kp : Int) (q : Option Addr) (l c : Nat) (z : Int) (ho : Ops w q l) (hl : l ≤ 9223372036854775807) : Calls Try.prog 5 #[.agg #[.int .i64 k, .int .i64 n, .int .i64 kp, .slice q l c], .int .i64 z] w (Ret fun u w' => u = .bool true ∧ Chg none_ w w') := by
  refine f5.calls _ _ _ _ _ _ _ ?_
  unfold f5.wp
  intro w1 e1
  have X1 := new_blk e1
  have c1 := (Chg.refl none_ w).new' e1
  refine ⟨_, _, _, _, _, _, X1.reads0, Calls.use (begin10 w1 k n kp q l c) ?_⟩
  clear e1
  rintro _ w2 (⟨_, rfl, c2⟩ | ⟨hk, v0, rb, b, rfl⟩)
  · exact ⟨_, _, _, rfl, bcF rfl ⟨ptrOk_none _ _, bcT (by simp) ⟨rfl, c1.trans c2⟩⟩⟩
  have hk3 : 1 ≤ k ∧ k ≤ 3 := by simp [okNew] at hk; omega
  have X2 := b.chg.blk X1 (fun x => x)
  refine ⟨_, _, _, rfl, bcF rfl ⟨ptrOk_none _ _, bcF (by simp) ⟨_, _, _, (X2.cell0 3).trans rfl, ?_⟩⟩⟩
  have G0 : Keen w v0.B k v0 w2 := ⟨⟨b.inv, rfl, fun x hx => Nat.le_trans c1.size (b.own x hx), c1.trans b.chg⟩, b.kind, .inr (by rw [b.line]; simp)⟩
  have hS : w.heap.size ≤ w.heap.size := Nat.le_refl _
  have ns : ¬ v0.own w.heap.size := b.inv.notOwn X2 (by decide) (by decide) (by decide)
  generalize v0.B = B at *
  clear b X1 c1 ns
  generalize hxs : w.heap.size = X at *
  refine ⟨fun x w3 => ∃ (i : Nat) (v : Vi), x = i ∧ i ≤ l ∧ Keen w B k v w3 ∧ Blk w3 X 24 #[.int .i64 k, .int .i64 n, .int .i64 kp, .slice q l c], fun x _ => l - x.toNat, ⟨0, v0, rfl, Nat.zero_le _, G0, X2⟩, ?_⟩
  clear G0 X2
  rintro x w3 ⟨i, v, rfl, hi, K, X3⟩
  have G := K.G
  refine bc (fun hlt => ?_) (fun _ => ?_)
  · have hi' : i < l := by simpa using hlt
    obtain ⟨a, x, y, rfl, hr⟩ := ho.chg G.chg i hi'
    simp only [Int.toNat_natCast]
    have hM : l - ((i : Int) + 1).toNat < l - i := by omega
    refine onPtr_mk ⟨by omega, by omega, _, _, hr, fun w4 e4 => ?_⟩
    have X4 := new_blk e4
    have G4 := G.next ((Chg.refl none_ w3).new' e4)
    refine ⟨X4.canStore (by simp), fun w5 e5 => ?_⟩
    have X5 := X4.over e5 rfl
    have Y5 := (X3.new' e4).far' e5 (show X ≠ w3.heap.size from fun h => by have := X3.lt; omega)
    have G5 := G4.put X4 G.chg.size (fun hc => by have := G.inv.lt hc; omega) e5
    clear e4 e5 X4 G4
    rw [wrap1 (by omega) (by omega)]
    have fin : ∀ {v' : Vi} {w' : World}, Good w B v' w' → Step v w5 v' w' → Plain k v'.line → (∃ (j : Nat) (v : Vi), ((i : Int) + 1) = j ∧ j ≤ l ∧ Keen w B k v w' ∧ Blk w' X 24 #[.int .i64 k, .int .i64 n, .int .i64 kp, .slice (some a) l c]) ∧ l - ((i : Int) + 1).toNat < l - i := fun {v' w'} g s p =>
      ⟨⟨i + 1, v', by omega, hi', ⟨g, s.kind.trans K.kind, p⟩, s.chg.blk Y5 (G5.inv.notOwn Y5 (by decide) (by decide) (by decide))⟩, hM⟩
    refine ⟨_, (X5.cell 0).trans rfl, bc (fun _ => ⟨_, (X5.cell0 1).trans rfl, Calls.use (G5.putIn y) ?_⟩) (fun _ => bc (fun _ => ⟨_, (X5.cell0 1).trans rfl, Calls.use (G5.hit y) ?_⟩) (fun _ => bc (fun _ => ⟨_, (X5.cell0 1).trans rfl, Calls.use (G5.free y) ?_⟩) (fun _ => bc (fun _ => Calls.use G5.nxt ?_) (fun _ => fin G5 G5.inv.refl K.plain))))⟩
    · rintro _ w7 ⟨rfl, v7, G7, s7, l7⟩
      exact ⟨_, rfl, fin G7 s7 (by rw [l7]; exact K.plain.puts y)⟩
    · rintro _ w7 ⟨rfl, v7, G7, s7, l7⟩
      exact ⟨_, rfl, fin G7 s7 (by rw [l7, K.kind]; exact K.plain.hits y)⟩
    · rintro _ w7 ⟨rfl, v7, G7, s7, l7⟩
      exact ⟨_, rfl, fin G7 s7 (by rw [l7]; exact K.plain.frees y)⟩
    · rintro _ w7 ⟨rfl, v7, G7, s7, l7⟩
      exact ⟨_, _, rfl, fin G7 s7 (by rw [l7]; exact K.plain.rots)⟩
  · refine Calls.use (G.hit z) ?_
    rintro _ w4 ⟨rfl, v4, G4, s4, l4⟩
    have X4 := s4.chg.blk X3 (G.inv.notOwn X3 (by decide) (by decide) (by decide))
    refine ⟨_, rfl, bc (fun _ => ⟨rfl, G4.chg⟩) (fun hh => ⟨_, (X4.cell 0).trans rfl, bc (fun _ => ⟨rfl, G4.chg⟩) (fun hk1 => Calls.use G4.ln ?_)⟩)⟩
    have hh' : has v.line z = true := by
      simp only [hitL] at hh
      split at hh
      · assumption
      · simp at hh
    have hk1' : k ≠ 1 := by simpa using hk1
    have p4 : Plain k v4.line := by rw [l4, K.kind]; exact K.plain.hits z
    have l4' : v4.line = if k = 2 then rem v.line z ++ one v.line z else if k = 3 then mark v.line z else v.line := by
      rw [l4, K.kind]; simp [hitL, hh']
    rintro _ w5 ⟨⟨q5, c5, rfl⟩, ho5, hc5, G5⟩
    have X5 := hc5.blk X4 (fun x => x)
    refine ⟨_, _, _, rfl, Calls.use G5.mks ?_⟩
    rintro _ w6 ⟨⟨q6, c6, rfl⟩, ho6, hc6, G6⟩
    have X6 := hc6.blk X5 (fun x => x)
    refine ⟨_, _, _, rfl, Calls.use G6.nxt ?_⟩
    rintro _ w7 ⟨rfl, v7, G7, s7, l7⟩
    have X7 := s7.chg.blk X6 (G6.inv.notOwn X6 (by decide) (by decide) (by decide))
    have hlen : v4.bs.length = v4.line.length := by simp [Vi.line]
    have nd := G4.inv.regsNodup
    -- z stands in line
    obtain ⟨m0, hm0⟩ := has_mem.1 hh'
    obtain ⟨m, hm, hm3⟩ : ∃ m, (z, m) ∈ v4.line ∧ (k = 3 → m = true) := by
      rw [l4']
      by_cases h2 : k = 2
      · rw [if_pos h2]
        exact ⟨m0, by simp [one, hm0], fun h3 => by omega⟩
      · have h3 : k = 3 := by omega
        rw [if_neg h2, if_pos h3]
        exact ⟨true, List.mem_map.2 ⟨_, hm0, by simp⟩, fun _ => rfl⟩
    have hne : v4.line ≠ [] := fun hc => by rw [hc] at hm; cases hm
    have hpos : 0 < v4.line.length := List.length_pos_iff.2 hne
    cases hrot : rotL v4.line with
    | nil => exact absurd hrot (rot_nil hne)
    | cons e t =>
      have hnx : nextL v4.line = (e.1, true) := by rw [nextL, hrot]
      rw [hnx, hlen]
      refine ⟨_, _, rfl, bcF rfl (bcF (by simp; omega) ⟨_, (X7.cell 0).trans rfl, bc (fun h2 => ?_) (fun h2 => bc (fun _ => ⟨rfl, G7.chg⟩) (fun he => ⟨?_, G7.chg⟩))⟩)⟩
      · have h2' : k = 2 := by simpa using h2
        rw [if_pos h2'] at l4'
        have hlast : v4.line.getLast? = some (z, m) := by
          have h5 : one v.line z = [(z, m0)] := by
            obtain ⟨b, hb, hbe⟩ := List.mem_map.1 hm0
            obtain ⟨i, hi, hr⟩ := G.inv.tabI b hb
            obtain ⟨_, _, _, _, e3, _, e5⟩ := G.inv.split hi
            have hz : z = i := by simp at hbe; omega
            rw [hz, e3]
            simp at hbe ⊢
            exact ⟨e5, hbe.2⟩
          rw [l4', h5] at hm ⊢
          simp [rem] at hm ⊢
          exact hm.symm
        have hidx : v4.line[v4.line.length - 1]? = some (z, m) := by rw [← List.getLast?_eq_getElem?]; exact hlast
        have hw : IntKind.wrap .i64 ((v4.line.length : Int) - 1) = ((v4.line.length - 1 : Nat) : Int) := by
          have h1 := G4.inv.few
          have h3 := G4.inv.small
          rw [show ((v4.line.length : Int) - 1) = (((v4.line.length : Int) - 2) + 1) by omega]
          rcases Nat.lt_or_ge v4.line.length 2 with h4 | h4
          · have : v4.line.length = 1 := by omega
            rw [this]; decide
          · rw [wrap1 (by omega) (by omega)]; omega
        rw [hw]
        simp only [Int.toNat_natCast]
        have ho7 := own_chg (own_chg ho5 hc6 (fun _ _ hf => hf)) s7.chg (fun g hg => by
          rcases ho5.2 with ⟨h8, _⟩ | ⟨g', cap, cur, h8, _, h9, _⟩
          · rw [h8] at hg; simp [Value.ownBlock] at hg
          · rw [h8] at hg
            simp [Value.ownBlock] at hg
            subst hg
            exact G6.inv.notOwn (hc6.blk h9 (fun x => x)) (by decide) (by decide) (by decide))
        obtain ⟨g, rfl, hcell⟩ := own_cell ho7 (i := v4.line.length - 1) (x := iv z) (by simp [Vi.regs, hidx])
        refine onPtr_mk ⟨by omega, by omega, _, hcell, bcT (by simp) (bc (fun _ => ⟨by trivial, G7.chg⟩) (fun he => ⟨?_, G7.chg⟩))⟩
        have he' : e.1 = z := by simpa using he
        rcases rot_head hrot with h8 | ⟨h8, m', s, h9⟩
        · rw [Plain] at p4
          have hall : ∀ e ∈ v4.line, e.2 = false := p4.resolve_left (by omega)
          have hr0 : rotL v4.line = v4.line := by
            cases hl : v4.line with
            | nil => rfl
            | cons a s => have := hall a (by rw [hl]; simp); simp [rotL, this]
          rw [hr0] at hrot
          cases t with
          | nil => rw [hrot]; rfl
          | cons a s =>
            exfalso
            rw [hrot] at nd hlast
            have h10 : (z, m) ∈ a :: s := by
              rw [List.getLast?_cons_cons] at hlast
              exact List.mem_of_getLast? hlast
            simp only [List.map_cons, List.nodup_cons] at nd
            exact nd.1 (by rw [he', ← List.map_cons]; exact List.mem_map.2 ⟨_, h10, rfl⟩)
        · have hall : ∀ e ∈ v4.line, e.2 = false := p4.resolve_left (by omega)
          have := hall _ hm
          have := h8 _ hm
          simp_all
      · have h3 : k = 3 := by simp at h2; omega
        have he' : e.1 = z := by simpa using he
        have hmt := hm3 h3
        subst hmt
        rcases rot_head hrot with h8 | ⟨h8, _⟩
        · rw [he'] at h8
          have := nodup_pair nd h8 hm
          cases this
        · rw [G4.inv.allMarked h8]; simp
end Go.Proofs.Ytnloecggngmcjaa
