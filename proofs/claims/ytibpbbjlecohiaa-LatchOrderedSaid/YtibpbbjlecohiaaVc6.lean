import Derived.Test.YtibpbbjlecohiaaVc5
namespace Go.Vc
variable {P : Program} {T : Tab} {F : List Nat}

def rdK (K : Addr → Prop) (w : World) (p : Addr) : List Kd → (List Value → Prop) → Prop
  | [k], C => exKd k fun v => K p ∧ w.cell? p = some v ∧ C [v]
  | ks, C => exKs ks fun vs => (∀ j, j < vs.length → K (p.add j)) ∧ reads w p vs ∧ C vs
def Keeps (K : Addr → Prop) (w w' : World) : Prop := ∀ q, K q → w'.cell? q = w.cell? q
theorem rdK_ok (K : Addr → Prop) (w : World) : RdOk (Keeps K w) (rdK K w) := fun p ks C h => by
  unfold rdK at h
  split at h
  · obtain ⟨v, h0, h1, h2⟩ := exKd_any h
    exact ⟨[v], rfl, h2, fun w' hw => reads_one (by rw [hw p h0]; exact h1)⟩
  · obtain ⟨vs, hl, h0, h1, h2⟩ := exKs_any h
    exact ⟨vs, hl, h2, fun w' hw j v hv => by
      have hj : j < vs.length := by
        rcases Nat.lt_or_ge j vs.length with h | h
        · exact h
        · rw [List.getElem?_eq_none h] at hv; cases hv
      rw [hw _ (h0 j hj)]; exact h1 j v hv⟩
def vcSegs (P : Program) (T : Tab) (F : List Nat) (n : Nat) (all : List Oper) : List (List (Nat × Bool)) → (World → Prop) → Env → World → ((World → Prop) → Env → World → Prop) → Prop
  | [], S, env, w, Q => Q S env w
  | s :: r, S, env, w, Q => ∃ K : Addr → Prop, vcH P T F n all (rdK K w) pe0 (fun w' => S w' ∧ Keeps K w w') s env w fun env' w' => vcSegs P T F n all r (fun w' => S w' ∧ Keeps K w w') env' w' Q
def flatS : List (List (Nat × Bool)) → List (Nat × Bool)
  | [] => []
  | s :: r => s ++ flatS r
def vcDrawG (P : Program) (T : Tab) (F : List Nat) (n : Nat) (ops : List Oper) (mixed : Bool) (nh : Nat) (segs : List (List (Nat × Bool))) (bag : List Nat) (env : Env) (w : World) (tail : Env → World → Prop) : Prop :=
  bif drawOk ops.toArray nh segs bag then
    (match mixed, segs with
      | false, [ord] => vcH P T F n ops (rdW w.drew) (ptrOk w.drew) (fun w' => w' = w.drew) ord env w.drew fun env' w' => vcBag P T F n ops (fun w' => w' = w.drew) bag.length (listedBy ord (Array.replicate ops.toArray.size false)) env' w' tail
      | false, _ => False
      | true, s :: r => ∃ K : Addr → Prop, vcH P T F n ops (rdK K w.drew) pe0 (Keeps K w.drew) s env w.drew fun env' w' => vcSegs P T F n ops r (Keeps K w.drew) env' w' fun S env' w' => vcBag P T F n ops S bag.length (listedBy (flatS (s :: r)) (Array.replicate ops.toArray.size false)) env' w' tail
      | true, [] => False)
  else False
def vcDraw (P : Program) (T : Tab) (F : List Nat) (n : Nat) (ops : List Oper) (mixed : Bool) (nh : Nat) (segs : List (List (Nat × Bool))) (bag : List Nat) (env : Env) (w : World) (Q : Env → World → Prop) : Prop :=
  vcDrawG P T F n ops mixed nh segs bag env w fun env' w' => vcOps P T F n ops (ops.drop nh) env' w' Q
theorem listedBy_app : ∀ (a b : List (Nat × Bool)) (L : Array Bool), listedBy (a ++ b) L = listedBy b (listedBy a L)
  | [], _, _ => rfl
  | _ :: a, b, _ => listedBy_app a b _
theorem RdOk.weak {S S' : World → Prop} {rd : Addr → List Kd → (List Value → Prop) → Prop} (h : RdOk S rd) (hS : ∀ w, S' w → S w) : RdOk S' rd := fun p ks C hC => by
  obtain ⟨vs, h1, h2, h3⟩ := h p ks C hC
  exact ⟨vs, h1, h2, fun w hw => h3 w (hS w hw)⟩
theorem vcSegs_sound (hT : TabOk P T) (hF : FOk P F) {n nh : Nat} {all : List Oper} {W : List Nat} {a0 : Act} (hd : ∀ o ∈ all, ∀ d, o.dst = some d → d ∈ W) {Q : (World → Prop) → Env → World → Prop} {Q' : Exit → Act → World → Prop} (hpan : ∀ c a w, ¬ Q' (.panic c) a w)
    (hsel : Region.noSelect all.toArray = true) (htail : TailW .any all.toArray nh) {L : Array Bool → Act → World → Prop} {bag : List Nat} {Lf : Array Bool}
    (hL : ∀ S env a w, Sat n env a → Fr W a0 a → S w → bagOk all.toArray nh bag.length bag Lf = true → Q S env w → anyH P .any all.toArray Q' S nh L bag.length Lf a w)
    (hdone : ∀ listed a w, L listed a w → ∀ j ∈ Region.ready .any all.toArray listed, nh ≤ j) :
    ∀ (segs : List (List (Nat × Bool))) (S : World → Prop) (listed : Array Bool) (env : Env) (a : Act) (w : World), listedBy (flatS segs) listed = Lf → HeadInv .any all.toArray nh listed → Sat n env a → Fr W a0 a → S w →
      segsOk all.toArray nh bag segs listed = true → vcSegs P T F n all segs S env w Q → anyH P .any all.toArray Q' S nh L (segsLen segs + bag.length) listed a w
  | [], S, listed, env, a, w, hLf, inv, hs, hf, hS, ho, h => by
    have hLf : listed = Lf := hLf
    subst hLf
    simp only [segsLen, Nat.zero_add]
    exact hL S env a w hs hf hS ho h
  | s :: r, S, listed, env, a, w, hLf, inv, hs, hf, hS, ho, h => by
    obtain ⟨K, h⟩ := h
    have hLf : listedBy (s ++ flatS r) listed = Lf := hLf
    rw [listedBy_app] at hLf
    have H := vcH_sound (P := P) (T := T) (F := F) hT hF ((rdK_ok K w).weak (S' := fun w' => S w' ∧ Keeps K w w') fun _ h => h.2) (pe0_ok _) hd hpan hsel htail (Q := fun env' w' => vcSegs P T F n all r (fun w' => S w' ∧ Keeps K w w') env' w' Q)
      (fin := segsOk all.toArray nh bag r) (Lf := listedBy s listed) (m := segsLen r + bag.length) (L := L)
      (fun env' a' w' inv' hs' hf' hS' ho' h' => vcSegs_sound hT hF hd hpan hsel htail hL hdone r (fun w' => S w' ∧ Keeps K w w') _ env' a' w' hLf inv' hs' hf' hS' ho' h') hdone s listed env a w rfl inv hs hf ⟨hS, fun _ _ => rfl⟩ ho h
    have := anyH_weak (S := S) (S' := fun w' => S w' ∧ Keeps K w w') (fun _ h => h.1) _ _ _ _ H
    rw [segsLen, Nat.add_assoc]
    exact this

def dsts (l : List Oper) : List Nat := l.filterMap (·.dst)
theorem mem_dsts {l : List Oper} {o : Oper} (h : o ∈ l) {d : Nat} (hd : o.dst = some d) : d ∈ dsts l := List.mem_filterMap.2 ⟨o, h, hd⟩

theorem region_sound (hT : TabOk P T) (hF : FOk P F) {n : Nat} {ops : List Oper} {id : Nat} {W : List Nat} (hW : ∀ d ∈ dsts ops, d ∈ W) {a0 a : Act} {env : Env} {w : World} {Q : Env → World → Prop} {Q' : Exit → Act → World → Prop}
    (hQ : ∀ env a w, Sat n env a → Fr W a0 a → Q env w → Q' .normal a w) (hs : Sat n env a) (hf : Fr W a0 a) (h : vcOps P T F n ops ops env w Q) : (Code.region id ops.toArray false).wp P Q' a w :=
  wp_region_list (by simpa using vcOps_sound hT hF hQ ops env w a (fun o ho d hd => hW d (mem_dsts ho hd)) hs hf h)

theorem draw_head (hT : TabOk P T) (hF : FOk P F) {n : Nat} {ops : List Oper} {W : List Nat} (hW : ∀ d ∈ dsts ops, d ∈ W) {a0 a : Act} {env : Env} {w : World}
    {tail : Env → World → Prop} {tailP : Act → World → Prop} {Q' : Exit → Act → World → Prop} (hpan : ∀ c a w, ¬ Q' (.panic c) a w)
    (hQ : ∀ env a w, Sat n env a → Fr W a0 a → tail env w → tailP a w) (hs : Sat n env a) (hf : Fr W a0 a) {mixed : Bool} {nh : Nat} {segs : List (List (Nat × Bool))} {bag : List Nat}
    (h : vcDrawG P T F n ops mixed nh segs bag env w tail) : nh ≤ ops.length ∧ ∃ S : World → Prop, anyH P .any ops.toArray Q' S nh (fun listed a w => Region.seqB .any ops.toArray (ops.toArray.size - nh) nh listed = true ∧ tailP a w) nh (Array.replicate ops.toArray.size false) a w.drew := by
  have hd : ∀ o ∈ ops, ∀ d, o.dst = some d → d ∈ W := fun o ho d hd => hW d (mem_dsts ho hd)
  unfold vcDrawG at h
  cases hok : drawOk ops.toArray nh segs bag with
  | false => rw [hok] at h; exact h.elim
  | true =>
    rw [hok] at h
    simp only [cond_true] at h
    simp only [drawOk, Bool.and_eq_true] at hok
    obtain ⟨⟨⟨hsel, hlen⟩, htl⟩, hord⟩ := hok
    have hlen' : segsLen segs + bag.length = nh := Nat.eq_of_beq_eq_true hlen
    have htail := tailW_of htl
    have hnle : nh ≤ ops.length := by
      rw [Bool.or_eq_true] at htl
      rcases htl with h | h
      · have := Nat.eq_of_beq_eq_true h; simp at this; omega
      · simp only [Bool.and_eq_true] at h
        have : nh < ops.toArray.size := blt_lt h.1.1
        simp at this; omega
    refine ⟨hnle, ?_⟩
    have inv0 : HeadInv .any ops.toArray nh (Array.replicate ops.toArray.size false) :=
      ⟨by simp, fun j oj _ hl => (by rw [getD_replicate_false] at hl; cases hl), fun t _ ht => getD_in (by simpa using ht) (getD_replicate_false _ _)⟩
    let L : Array Bool → Act → World → Prop := fun listed a w => Region.seqB .any ops.toArray (ops.toArray.size - nh) nh listed = true ∧ tailP a w
    have hbag : ∀ (S : World → Prop) (Lf : Array Bool) env a w, Sat n env a → Fr W a0 a → S w → bagOk ops.toArray nh bag.length bag Lf = true →
        (vcBag P T F n ops S bag.length Lf env w tail) → anyH P .any ops.toArray Q' S nh L bag.length Lf a w := fun S Lf env a w hs hf hS hb h =>
      vcBag_sound hT hF hd (Q := tail) (fun listed env a w hs hf hb h => ⟨hb, hQ env a w hs hf h⟩) bag.length bag _ env a w hs hf hS hb h
    split at h
    · rename_i ord
      have H := vcH_sound (P := P) (T := T) (F := F) hT hF (rdW_ok w.drew) (ptrOk_ok w.drew) hd hpan hsel htail (Q := fun env' w' => vcBag P T F n ops (fun w' => w' = w.drew) bag.length (listedBy ord (Array.replicate ops.toArray.size false)) env' w' tail)
        (fin := segsOk ops.toArray nh bag []) (Lf := listedBy ord (Array.replicate ops.toArray.size false)) (m := bag.length) (L := L) (fun env a w _ hs hf hS hb h => hbag _ _ env a w hs hf hS hb h) (fun listed a w hl => seqB_ready hl.1) ord _ env a w.drew rfl inv0 hs hf rfl hord h
      have e : ord.length + bag.length = nh := by simpa [segsLen] using hlen'
      rw [e] at H
      exact ⟨fun w' => w' = w.drew, H⟩
    · exact h.elim
    · rename_i s r
      obtain ⟨K, h⟩ := h
      have H := vcH_sound (P := P) (T := T) (F := F) hT hF (rdK_ok K w.drew) (pe0_ok _) hd hpan hsel htail
        (Q := fun env' w' => vcSegs P T F n ops r (Keeps K w.drew) env' w' fun S env' w' => vcBag P T F n ops S bag.length (listedBy (flatS (s :: r)) (Array.replicate ops.toArray.size false)) env' w' tail)
        (fin := segsOk ops.toArray nh bag r) (Lf := listedBy s (Array.replicate ops.toArray.size false)) (m := segsLen r + bag.length) (L := L)
        (fun env' a' w' inv' hs' hf' hS' ho' h' => vcSegs_sound (P := P) (T := T) (F := F) hT hF hd hpan hsel htail
          (Q := fun S env' w' => vcBag P T F n ops S bag.length (listedBy (flatS (s :: r)) (Array.replicate ops.toArray.size false)) env' w' tail)
          (bag := bag) (L := L) (Lf := listedBy (flatS (s :: r)) (Array.replicate ops.toArray.size false)) (fun S env a w hs hf hS hb h => hbag S _ env a w hs hf hS hb h) (fun listed a w hl => seqB_ready hl.1) r (Keeps K w.drew) _ env' a' w'
          (by show _ = listedBy (s ++ flatS r) _; rw [listedBy_app]) inv' hs' hf' hS' ho' h')
        (fun listed a w hl => seqB_ready hl.1) s _ env a w.drew rfl inv0 hs hf (fun _ _ => rfl) hord h
      refine ⟨Keeps K w.drew, ?_⟩
      rw [← Nat.add_assoc] at H
      have e : s.length + segsLen r + bag.length = nh := hlen'
      rw [e] at H
      exact H
    · exact h.elim
theorem draw_ops (hT : TabOk P T) (hF : FOk P F) {n : Nat} {ops : List Oper} {W : List Nat} (hW : ∀ d ∈ dsts ops, d ∈ W) {a0 a : Act} {env : Env} {w : World}
    {Q : Env → World → Prop} {Q' : Exit → Act → World → Prop} (hpan : ∀ c a w, ¬ Q' (.panic c) a w)
    (hQ : ∀ env a w, Sat n env a → Fr W a0 a → Q env w → Q' .normal a w) (hs : Sat n env a) (hf : Fr W a0 a) {mixed : Bool} {nh : Nat} {segs : List (List (Nat × Bool))} {bag : List Nat}
    (h : vcDraw P T F n ops mixed nh segs bag env w Q) : wpAny P .any ops.toArray Q' ops.toArray.size (Array.replicate ops.toArray.size false) a w.drew := by
  have hd : ∀ o ∈ ops, ∀ d, o.dst = some d → d ∈ W := fun o ho d hd => hW d (mem_dsts ho hd)
  obtain ⟨hnle, S, H⟩ := draw_head hT hF hW (tailP := fun a w => wpList P ops.toArray Q' (ops.drop nh) a w) hpan (fun env a w hs hf h => vcOps_sound hT hF hQ (ops.drop nh) env w a (fun o ho => hd o (List.mem_of_mem_drop ho)) hs hf h) hs hf h
  have := any_of_head (g := ops.toArray.size - nh) (fun listed a w hl => by
    have := wpAny_of_seq (md := .any) (Q' := Q') (ops.drop nh) nh listed a w (fun j => by simp [List.getElem?_drop]) (by simpa using hl.1) hl.2
    simpa using this) _ _ _ _ H
  rw [show nh + (ops.toArray.size - nh) = ops.toArray.size by simp; omega] at this
  exact this
theorem draw_sound (hT : TabOk P T) (hF : FOk P F) (hm : P.follows .mixedOrders = true) {n : Nat} {ops : List Oper} {id : Nat} {W : List Nat} (hW : ∀ d ∈ dsts ops, d ∈ W) {a0 a : Act} {env : Env} {w : World}
    {Q : Env → World → Prop} {Q' : Exit → Act → World → Prop} (hpan : ∀ c a w, ¬ Q' (.panic c) a w)
    (hQ : ∀ env a w, Sat n env a → Fr W a0 a → Q env w → Q' .normal a w) (hs : Sat n env a) (hf : Fr W a0 a) {mixed : Bool} {nh : Nat} {segs : List (List (Nat × Bool))} {bag : List Nat}
    (h : vcDraw P T F n ops mixed nh segs bag env w Q) : (Code.region id ops.toArray true).wp P Q' a w := wp_region_any hm (draw_ops hT hF hW hpan hQ hs hf h)

/-! ## code -/
inductive Ann where
  | leaf | seq (a b : Ann) | join (vs : List (Nat × Sh)) (a b : Ann) | cond (a b : Ann) | block (a : Ann) | loop (vs : List (Nat × Sh)) (a : Ann) | draw (mixed : Bool) (nh : Nat) (segs : List (List (Nat × Bool))) (bag : List Nat)
def writes : Code → List Nat
  | .region _ ops _ => dsts ops.toList
  | .seq a b => writes a ++ writes b
  | .cond _ a b => writes a ++ writes b
  | .block _ a => writes a
  | .loop a => writes a
  | .scope a => writes a
  | _ => []
def dropE (ws : List Nat) : Env → Env
  | [] => []
  | p :: r => bif ws.elem p.1 then dropE ws r else p :: dropE ws r
def flatV : Sh → Value → Option (List Value)
  | .one _, v => some [v]
  | .agg ks, .agg cs => bif Nat.beq cs.toList.length ks.length then some cs.toList else none
  | _, _ => none
def flats (env : Env) : List (Nat × Sh) → Option (List Value)
  | [] => some []
  | (i, s) :: r => match lk env i with
    | some v => match flatV s v, flats env r with
      | some l, some l' => some (l ++ l')
      | _, _ => none
    | none => none
def kindsOf : List (Nat × Sh) → List Kd
  | [] => []
  | (_, .one k) :: r => k :: kindsOf r
  | (_, .agg ks) :: r => ks ++ kindsOf r
  | (_, .tup _) :: r => kindsOf r
def packs : List (Nat × Sh) → List Value → Env
  | [], _ => []
  | (i, .one _) :: r, v :: vs => (i, v) :: packs r vs
  | (_, .one _) :: r, [] => packs r []
  | (i, .agg ks) :: r, vs => (i, .agg (vs.take ks.length).toArray) :: packs r (vs.drop ks.length)
  | (_, .tup _) :: r, vs => packs r vs
def CT (R : Type) : List Kd → Type
  | [] => World → R
  | .int _ :: r => Int → CT R r
  | .bool :: r => Bool → CT R r
  | .str :: r => ByteArray → CT R r
  | .ptr :: r => Option Addr → CT R r
  | .sl :: r => Option Addr → Nat → Nat → CT R r
  | .map :: r => Option Nat → CT R r
  | .any :: r => Value → CT R r
  | .fn _ :: r => Value → CT R r
def apT {R : Type} (d : R) : (ks : List Kd) → CT R ks → List Value → World → R
  | [], f, [], w => f w
  | .int k :: r, f, .int k' n :: vs, w => bif decide (k = k') then apT d r (f n) vs w else d
  | .bool :: r, f, .bool b :: vs, w => apT d r (f b) vs w
  | .str :: r, f, .string s :: vs, w => apT d r (f s) vs w
  | .ptr :: r, f, .pointer p :: vs, w => apT d r (f p) vs w
  | .sl :: r, f, .slice p n c :: vs, w => apT d r (f p n c) vs w
  | .map :: r, f, .map p :: vs, w => apT d r (f p) vs w
  | .any :: r, f, v :: vs, w => apT d r (f v) vs w
  | .fn _ :: r, f, v :: vs, w => apT d r (f v) vs w
  | _, _, _, _ => d
def allK : List Kd → (List Value → Prop) → Prop
  | [], C => C []
  | .int k :: r, C => ∀ n : Int, allK r fun vs => C (.int k n :: vs)
  | .bool :: r, C => ∀ b : Bool, allK r fun vs => C (.bool b :: vs)
  | .str :: r, C => ∀ s : ByteArray, allK r fun vs => C (.string s :: vs)
  | .ptr :: r, C => ∀ p : Option Addr, allK r fun vs => C (.pointer p :: vs)
  | .sl :: r, C => ∀ (p : Option Addr) (n c : Nat), allK r fun vs => C (.slice p n c :: vs)
  | .map :: r, C => ∀ p : Option Nat, allK r fun vs => C (.map p :: vs)
  | .any :: r, C => ∀ v : Value, allK r fun vs => C (v :: vs)
  | .fn _ :: r, C => ∀ v : Value, allK r fun vs => C (v :: vs)
/-- what holds of so many values behind all that follows -/
theorem allK_apT {w : World} : ∀ {ks : List Kd} {I : CT Prop ks} {vs : List Value} {C : List Value → Prop}, allK ks C → apT False ks I vs w → C vs
  | [], I, [], C, h, _ => h
  | [], I, _ :: _, C, _, h' => by simp [apT] at h'
  | .int k :: r, I, [], C, _, h' => by simp [apT] at h'
  | .int k :: r, I, v :: vs, C, h, h' => by
    cases v with
    | int k' n =>
      simp only [apT] at h'
      by_cases e : k = k'
      · subst e
        simp only [decide_true, cond_true] at h'
        exact allK_apT (I := I n) (C := fun vs => C (.int k n :: vs)) (h n) h'
      · simp [e] at h'
    | _ => simp [apT] at h'
  | .bool :: r, I, [], C, _, h' => by simp [apT] at h'
  | .bool :: r, I, v :: vs, C, h, h' => by
    cases v with
    | bool b => exact allK_apT (w := w) (I := I b) (C := fun vs => C (.bool b :: vs)) (h b) h'
    | _ => simp [apT] at h'
  | .str :: r, I, [], C, _, h' => by simp [apT] at h'
  | .str :: r, I, v :: vs, C, h, h' => by
    cases v with
    | string b => exact allK_apT (w := w) (I := I b) (C := fun vs => C (.string b :: vs)) (h b) h'
    | _ => simp [apT] at h'
  | .ptr :: r, I, [], C, _, h' => by simp [apT] at h'
  | .ptr :: r, I, v :: vs, C, h, h' => by
    cases v with
    | pointer b => exact allK_apT (w := w) (I := I b) (C := fun vs => C (.pointer b :: vs)) (h b) h'
    | _ => simp [apT] at h'
  | .sl :: r, I, [], C, _, h' => by simp [apT] at h'
  | .sl :: r, I, v :: vs, C, h, h' => by
    cases v with
    | slice p n c => exact allK_apT (w := w) (I := I p n c) (C := fun vs => C (.slice p n c :: vs)) (h p n c) h'
    | _ => simp [apT] at h'
  | .map :: r, I, [], C, _, h' => by simp [apT] at h'
  | .map :: r, I, v :: vs, C, h, h' => by
    cases v with
    | map b => exact allK_apT (w := w) (I := I b) (C := fun vs => C (.map b :: vs)) (h b) h'
    | _ => simp [apT] at h'
  | .any :: r, I, [], C, _, h' => by simp [apT] at h'
  | .any :: r, I, v :: vs, C, h, h' => allK_apT (w := w) (I := I v) (C := fun vs => C (v :: vs)) (h v) (by cases v <;> exact h')
  | .fn _ :: r, I, [], C, _, h' => by simp [apT] at h'
  | .fn _ :: r, I, v :: vs, C, h, h' => allK_apT (w := w) (I := I v) (C := fun vs => C (v :: vs)) (h v) (by cases v <;> exact h')

def exOk : Exit → Prop
  | .panic _ => False
  | .outgrown => False
  | _ => True
def liftQ (n : Nat) (W : List Nat) (a0 : Act) (Q : Exit → Env → World → Prop) (e : Exit) (a : Act) (w : World) : Prop := exOk e ∧ ∃ env, Sat n env a ∧ Fr W a0 a ∧ Q e env w
def onEnd (Q : Exit → Env → World → Prop) (C : Env → World → Prop) : Exit → Env → World → Prop
  | .normal, env, w => C env w
  | e, env, w => Q e env w
def onExit (id : Nat) (Q : Exit → Env → World → Prop) : Exit → Env → World → Prop
  | .exit i, env, w => bif Nat.beq i id then Q .normal env w else Q (.exit i) env w
  | e, env, w => Q e env w
def vc (P : Program) (T : Tab) (F : List Nat) (n : Nat) : Code → Ann → Env → World → (Exit → Env → World → Prop) → Prop
  | .skip, _, env, w, Q => Q .normal env w
  | .label _, _, env, w, Q => Q .normal env w
  | .ret, _, env, w, Q => Q .ret env w
  | .exit id, _, env, w, Q => Q (.exit id) env w
  | .region _ ops false, _, env, w, Q => vcOps P T F n ops.toList ops.toList env w fun e w' => Q .normal e w'
  | .region _ ops true, .draw m nh ord bag, env, w, Q => vcDraw P T F n ops.toList m nh ord bag env w fun e w' => Q .normal e w'
  | .seq a b, .seq x y, env, w, Q => vc P T F n a x env w (onEnd Q fun env' w' => vc P T F n b y env' w' Q)
  | .seq a b, .join vs x y, env, w, Q => ∃ J : CT Prop (kindsOf vs),
      (allK (kindsOf vs) fun l => ∀ w', apT False (kindsOf vs) J l w' → vc P T F n b y (packs vs l ++ dropE (writes a) env) w' Q) ∧
      vc P T F n a x env w (onEnd Q fun env' w' => match flats env' vs with
        | some l => apT False (kindsOf vs) J l w'
        | none => False)
  | .cond c a b, .cond x y, env, w, Q => match opv env c with
    | some (.bool t) => bcase t (vc P T F n a x env w Q) (vc P T F n b y env w Q)
    | _ => False
  | .block id a, .block x, env, w, Q => vc P T F n a x env w (onExit id Q)
  | .scope a, .block x, env, w, Q => vc P T F n a x env w fun e env' w' => match e with
    | .goto _ => False
    | e => Q e env' w'
  | .loop a, .loop vs x, env, w, Q => match flats env vs with
    | none => False
    | some l0 => ∃ (I : CT Prop (kindsOf vs)) (μ : CT Nat (kindsOf vs)), apT False (kindsOf vs) I l0 w ∧
      allK (kindsOf vs) fun l => ∀ w', apT False (kindsOf vs) I l w' → vc P T F n a x (packs vs l ++ dropE (writes a) env) w' (onEnd Q fun env'' w'' => match flats env'' vs with
        | some l' => apT False (kindsOf vs) I l' w'' ∧ apT 0 (kindsOf vs) μ l' w'' < apT 0 (kindsOf vs) μ l w'
        | none => False)
  | c, _, env, w, Q => ∀ a, Sat n env a → c.wp P (liftQ n (writes c) a Q) a w
end Go.Vc
