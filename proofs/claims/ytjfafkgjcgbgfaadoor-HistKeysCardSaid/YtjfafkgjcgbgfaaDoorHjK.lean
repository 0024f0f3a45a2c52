import Derived.Test.YtjfafkgjcgbgfaaDoorHjJ
set_option maxRecDepth 20000
namespace Go.Proofs.YtjfafkgjcgbgfaaDoor
open Go Go.Vc Go.RowKit
inductive TextIs (T : World → Prop) : ByteArray → List Mv → Prop where
  | nil : TextIs T ⟨#[]⟩ []
  | cons (s l rest : ByteArray) (ws : List ByteArray) (m : Mv) (ms : List Mv) (hz : s.size < 4294967281) (h0 : s.data.toList ≠ []) (hc : Lib.cut s.data.toList [10] = (l.data.toList, rest.data.toList, true)) (hs : SplitIs l ws) (hl : LineIs T m ws) (hr : TextIs T rest ms) : TextIs T s (m :: ms)
theorem parse22 {base : Nat} {T : World → Prop} (hT : Stays base T) (hTS : ∀ w, T w → w.ShapedOpen Tryd.prog) {w : World} {s : ByteArray} {ms : List Mv} (hs : TextIs T s ms) (hz : s.size ≤ 65536) (hck : Chk ms 0 0) (hb : base ≤ w.heap.size) (t : T w) :
    Calls Tryd.prog 22 #[.string s] w (Ret fun v w' => ∃ q c, v = .tuple #[.slice q ms.length c, .int .i64 0, .int .i64 0] ∧ SE En.mv w' w.heap.size 33 q ms.length c ms ∧ Chg none_ w w') := by
  have hlen : ms.length ≤ 4096 := by cases hck with | ok h => exact h
  have st : ∀ {w' : World}, Chg none_ w w' → T w' := fun k => hT k (fun _ h => h.elim) t
  refine f22.calls _ ?_
  unfold f22.wp
  refine bcF (by simp; omega) ⟨fun x q l c n w1 => ∃ done rest, ms = done ++ rest ∧ TextIs T x rest ∧ SE En.mv w1 w.heap.size 33 q l c done ∧ Chg none_ w w1, fun _ _ l _ _ _ => ms.length - l, ⟨[], ms, rfl, hs, SE.nil _ _ _ _, Chg.refl _ _⟩, ?_⟩
  rintro x q l c n w1 ⟨done, rest, hms, hx, S1, k1⟩
  have hl := S1.len
  cases hx with
  | nil =>
    refine bcF (by simp) ?_
    rw [List.append_nil] at hms
    subst hms
    subst hl
    refine Calls.use (check12 S1.re) ?_
    rintro _ w8 ⟨a, b, rfl, h8, k8⟩
    obtain ⟨rfl, rfl⟩ := h8.eq hck
    exact ⟨_, _, rfl, bcF rfl ⟨_, _, rfl, S1.chgN k8, k1.trans k8⟩⟩
  | cons s l' rest' ws m ms' hz h0 hc hsp hln hr =>
    have hlm : ms.length = done.length + (ms'.length + 1) := by rw [hms]; simp
    refine bcT (by rw [ByteArray.toList_eq, ByteArray.toList_eq]; simpa using h0) ((Tryd.strings_Cut_shaped x ⟨#[10]⟩ w1 (hTS _ (st k1)) hz).mono ?_)
    rintro _ _ ⟨rfl, j, rfl⟩
    have hc' : Lib.cut x.data.toList (⟨#[10]⟩ : ByteArray).data.toList = (l'.data.toList, rest'.data.toList, true) := hc
    rw [hc']
    simp only [ba_back]
    have kd : Chg none_ w (w1.drewN j) := ⟨k1.os, by simpa using k1.tape, k1.output, by simpa using k1.size, fun k hk hn => by simpa using k1.block k hk hn⟩
    have Sd : SE En.mv (w1.drewN j) w.heap.size 33 q l c done := S1.chgN ⟨rfl, by simp, rfl, by simp, fun k hk hn => by simp⟩
    refine ⟨_, _, _, rfl, Calls.use (move37 hT hTS hsp hln (by have := kd.size; omega) (st kd)) ?_⟩
    rintro _ w3 ⟨rfl, k3⟩
    refine ⟨m.kind, m.key, m.val, m.err, m.hit, m.life, m.frm, m.to, true, rfl, boxed rfl rfl fun w5 B5 k5 s5 => bcF rfl (bcF rfl ⟨m.kind, m.key, m.val, m.err, m.hit, m.life, m.frm, m.to, B5.reads0, newBox fun w6 B6 k6 s6 => ?_⟩)⟩
    have k36 := k3.trans (k5.trans k6)
    have k06 := kd.trans k36
    obtain ⟨q2, c2, w7, hrun, S7, k7, _⟩ := (Sd.chgN k36).append1 (t := 23) (ty := 23) (x := m) elemMove B6 (by simp only [maxLen]; omega) (by omega) k06.size
    exact ⟨_, _, _, w7, hrun, ⟨done ++ [m], ms', by rw [hms]; simp, hr, S7, k06.up k7 fun g hg => (Sd.lt hg.symm).2⟩, by omega⟩
/-! # pairs of moves -/
def RR (p m : Mv) : Prop := p.life ≤ m.life ∧ p.frm < m.frm ∧ (p.life < m.life → p.to < m.frm)
theorem Oks.frm {ms : List Mv} {n : Nat} (h : Oks ms n) : ∀ (d j : Nat) (a b : Mv), j + (d + 1) < n → ms[j]? = some a → ms[j + (d + 1)]? = some b → a.frm < b.frm
  | 0, j, a, b, hn, ha, hb => ((h (j + 1) b hn hb).prev j a rfl ha).2
  | d + 1, j, a, b, hn, ha, hb => by
    obtain ⟨c, hc⟩ := get_ex (l := ms) (i := j + (d + 1)) (by have := get_lt hb; omega)
    have h1 := Oks.frm h d j a c (by omega) ha hc
    have h2 := ((h (j + (d + 1 + 1)) b hn hb).prev (j + (d + 1)) c (by omega) hc).2
    omega
theorem oks_pair {ms : List Mv} : Oks ms ms.length ↔ (∀ m ∈ ms, Alone m) ∧ ms.Pairwise RR := by
  constructor
  · intro h
    refine ⟨fun m hm => ?_, ?_⟩
    · obtain ⟨i, hi⟩ := List.getElem?_of_mem hm
      exact (h i m (get_lt hi) hi).alone
    · rw [List.pairwise_iff_getElem]
      intro i j hi hj hij
      have hb := List.getElem?_eq_getElem hj
      have ha := List.getElem?_eq_getElem hi
      refine ⟨?_, ?_, fun hl => ((h j _ hj hb).elder i _ hij ha hl).2⟩
      · exact h.life (j - i) i _ _ (by omega) ha (by rw [show i + (j - i) = j by omega]; exact hb)
      · exact h.frm (j - i - 1) i _ _ (by omega) ha (by rw [show i + (j - i - 1 + 1) = j by omega]; exact hb)
  · rintro ⟨h1, h2⟩ i m hi hm
    rw [List.pairwise_iff_getElem] at h2
    have key : ∀ (j : Nat) (p : Mv), j < i → ms[j]? = some p → RR p m := fun j p hj hp => by
      have hjl := get_lt hp
      have := h2 j i hjl hi hj
      rw [List.getElem?_eq_getElem hjl] at hp
      rw [List.getElem?_eq_getElem hi] at hm
      cases hp; cases hm
      exact this
    refine ⟨h1 m (List.mem_of_getElem? hm), fun j p hj hp => ?_, fun j p hj hp hl => ?_⟩
    · have := key j p (by omega) hp; exact ⟨this.1, this.2.1⟩
    · have := key j p hj hp; exact ⟨this.2.1, this.2.2 hl⟩
theorem Chk.alive {ms : List Mv} {a : Int} (h : Chk ms a 0) : ms.length ≤ 4096 ∧ Oks ms ms.length := by cases h with | ok h1 h2 => exact ⟨h1, h2⟩
/-- what is cut of a history that may be, may be -/
theorem cut_alone {m : Mv} {step : Int} (h : Alone m) : Alone (cutM step m) := by
  unfold cutM
  split
  · refine ⟨by show (0 : Int) < _; omega, h.b2, h.b3, by show (-1 : Int) < _; omega, h.k1, h.k2, h.l0, h.f0, .inl rfl, by show (0 : Int) ≤ 0; omega, .inr ⟨rfl, rfl⟩, (fun e => by cases e), ?_, h.ky⟩
    by_cases e : m.kind = 2
    · exact .inr (.inl e)
    · left; show (if m.kind = 2 then m.val else e0).toList = _; rw [if_neg e]
  · exact h
theorem cutM_life (step : Int) (m : Mv) : (cutM step m).life = m.life ∧ (cutM step m).frm = m.frm ∧ ((cutM step m).to = m.to ∨ (cutM step m).to = -1) := by
  unfold cutM
  split
  · exact ⟨rfl, rfl, .inr rfl⟩
  · exact ⟨rfl, rfl, .inl rfl⟩
theorem cut_oks {ms : List Mv} {step : Int} (h : Oks ms ms.length) : Oks (cutL step ms) (cutL step ms).length := by
  rw [oks_pair] at h ⊢
  obtain ⟨h1, h2⟩ := h
  unfold cutL
  refine ⟨fun m hm => ?_, ?_⟩
  · obtain ⟨p, hp, rfl⟩ := List.mem_map.1 hm
    exact cut_alone (h1 p (List.mem_filter.1 hp).1)
  · rw [List.pairwise_map]
    refine List.Pairwise.imp_of_mem ?_ (h2.filter _)
    intro a b ha hb hab
    have fb := (h1 b (List.mem_filter.1 hb).1).f0
    obtain ⟨a1, a2, a3⟩ := cutM_life step a
    obtain ⟨b1, b2, b3⟩ := cutM_life step b
    obtain ⟨r1, r2, r3⟩ := hab
    refine ⟨by omega, by omega, fun hl => ?_⟩
    have := r3 (by omega)
    rcases a3 with a3 | a3 <;> omega
theorem cut_cut {ms : List Mv} {a b : Int} (h : Oks ms ms.length) : cutL b (cutL a ms) = cutL (if b < a then b else a) ms := by
  have h1 := (oks_pair.1 h).1
  clear h
  induction ms with
  | nil => rfl
  | cons m ms ih =>
    have ih := ih fun m hm => h1 m (List.mem_cons_of_mem _ hm)
    have hm := h1 m (List.mem_cons_self ..)
    have hf := hm.f0
    obtain ⟨c1, c2, c3⟩ := cutM_life a m
    have e : ∀ s l, cutL s (m :: l) = if m.frm < s then cutM s m :: cutL s l else cutL s l := fun s l => by
      unfold cutL
      by_cases e : m.frm < s <;> simp [e]
    have e' : ∀ l, cutL b (cutM a m :: l) = if m.frm < b then cutM b (cutM a m) :: cutL b l else cutL b l := fun l => by
      unfold cutL
      by_cases e : m.frm < b <;> simp [e, c2]
    rw [e, e]
    by_cases g1 : m.frm < a
    · rw [if_pos g1, e']
      by_cases g2 : m.frm < b
      · rw [if_pos g2, if_pos (by split <;> omega), ih]
        congr 1
        by_cases g3 : m.to ≥ a
        · have : cutM a m = openM m := by unfold cutM; rw [if_pos g3]
          rw [this]
          have h2 : cutM b (openM m) = openM m := by
            unfold cutM; rw [if_neg]; show ¬ (-1 : Int) ≥ b; omega
          rw [h2]
          unfold cutM
          rw [if_pos]
          split <;> omega
        · have : cutM a m = m := by unfold cutM; rw [if_neg g3]
          rw [this]
          unfold cutM
          by_cases g4 : m.to ≥ b
          · rw [if_pos g4, if_pos (by split <;> omega)]
          · rw [if_neg g4, if_neg (by split <;> omega)]
      · rw [if_neg g2, if_neg (by split <;> omega), ih]
    · rw [if_neg g1, if_neg (by split <;> omega), ih]
end Go.Proofs.YtjfafkgjcgbgfaaDoor
