import Derived.Test.YtjfafkgjcgbgfaaDoorHjF
import Derived.Test.YtjfafkgjcgbgfaaDoorShelf
set_option maxRecDepth 20000
namespace Go.Proofs.YtjfafkgjcgbgfaaDoor
open Go Go.Vc Go.RowKit
def En.u8 : En UInt8 := ⟨1, fun b => [.int .u8 (b.toNat : Int)], fun _ => rfl, fun _ v hv => by simp at hv; subst hv; rfl, by decide⟩
theorem elemU8 : ElemOk Tryd.prog 89 5 1 1 := ⟨rfl, _, rfl, rfl⟩
def hx (n : Nat) : UInt8 := if n < 10 then UInt8.ofNat (48 + n) else UInt8.ofNat (87 + n)
def hexOf : List UInt8 → List UInt8
  | [] => []
  | b :: bs => hx (b.toNat / 16) :: hx (b.toNat % 16) :: hexOf bs
theorem hexOf_len : ∀ bs : List UInt8, (hexOf bs).length = 2 * bs.length
  | [] => rfl
  | b :: bs => by simp [hexOf, hexOf_len bs]; omega
theorem hexOf_get : ∀ {bs : List UInt8} {k : Nat} {b : UInt8}, bs[k]? = some b → (hexOf bs)[2 * k]? = some (hx (b.toNat / 16)) ∧ (hexOf bs)[2 * k + 1]? = some (hx (b.toNat % 16))
  | [], k, b, h => by simp at h
  | c :: bs, 0, b, h => by simp at h; subst h; simp [hexOf]
  | c :: bs, k + 1, b, h => by
    have ih := hexOf_get (bs := bs) (k := k) (by simpa using h)
    rw [show 2 * (k + 1) = 2 * k + 1 + 1 by omega]
    simpa [hexOf] using ih
theorem hx_index : ∀ n : Fin 16, Lib.indexByte [48, 49, 50, 51, 52, 53, 54, 55, 56, 57, 97, 98, 99, 100, 101, 102] (hx n.1) = (n.1 : Int) := by decide +kernel
theorem hx_join : ∀ n : Fin 256, IntKind.wrap .u8 (IntKind.wrap .i64 (((BitVec.ofInt (IntKind.bits .i64) (IntKind.wrap .i64 (((n.1 / 16 : Nat) : Int) * 2 ^ (min (4 : Int).toNat (IntKind.bits .i64)))) ||| BitVec.ofInt (IntKind.bits .i64) ((n.1 % 16 : Nat) : Int)).toNat : Nat) : Int)) = (n.1 : Int) := by decide +kernel
theorem u8back (n : UInt8) : ((n.toNat : Nat) : Int).toNat.toUInt8 = n := by simp
theorem nil93 (w : World) : (eqSem .neq 93 (.tmp 13) (.const Value.nilIface) Value.nilIface Value.nilIface).run Tryd.prog w = .ok (.bool false) w := by
  simp only [eqSem, Sem.run_bind]
  rw [show (eqGuard BinOp.neq 93 (Operand.tmp 13) (Operand.const Value.nilIface) Value.nilIface Value.nilIface) = pure () from rfl]
  rw [Sem.run_pure]
  simp only [Result.andThen]
  simp [go_sem]
theorem conv89 {w : World} {q : Option Addr} {l c : Nat} {bs : List UInt8} (h : RE En.u8 w q l bs) : (convert 89 9 (.slice q l c)).run Tryd.prog w = .ok (.string ⟨bs.toArray⟩) w := by
  have hl := h.len
  cases bs with
  | nil =>
    simp at hl; subst hl
    cases q with
    | none =>
      rw [run_convert_bytes_string w 89 9 5 none 0 c rfl rfl rfl]
      simp [Conv.bytesToString]
      rfl
    | some a => exact run_convert_bytes_back w 89 9 5 a c [] rfl rfl rfl (fun j hj => by simp at hj)
  | cons b bs =>
    subst hl
    obtain ⟨a, b', rfl, _, _⟩ := h.ex (i := 0) (by simp)
    refine run_convert_bytes_back w 89 9 5 a c (b :: bs) rfl rfl rfl fun j hj => ?_
    obtain ⟨a', ha, hr⟩ := h.get j _ (List.getElem?_eq_getElem hj)
    cases ha
    have := hr 0 _ rfl
    rw [add_zero'] at this
    simpa [En.u8] using this
/-- a reader that stands ahead of the words ws, that lie in the block wb -/
structure Rd (w : World) (r wb : Nat) (ws : List ByteArray) : Prop where
  ex : ∃ q l c, Blk w r 129 #[.slice q l c, .bool false] ∧ RE En.str w q l ws ∧ l ≤ c ∧ ∀ a, q = some a → a.block = wb
  ne : wb ≠ r
theorem Rd.chg {w w' : World} {r wb : Nat} {ws : List ByteArray} (h : Rd w r wb ws) {S : Nat → Prop} (k : Chg S w w') (hr : ¬ S r) (hS : ¬ S wb) : Rd w' r wb ws := by
  obtain ⟨q, l, c, B, H, hc, hq⟩ := h.ex
  exact ⟨⟨q, l, c, k.blk B hr, H.chgS k (fun a ha => by rw [hq a ha]; exact hS), hc, hq⟩, h.ne⟩
theorem Rd.chgN {w w' : World} {r wb : Nat} {ws : List ByteArray} (h : Rd w r wb ws) (k : Chg none_ w w') : Rd w' r wb ws := h.chg k (fun x => x) fun x => x
section
variable {T : World → Prop} {base : Nat}
/-- what T says outlives what is turned above 'base' -/
def Stays (base : Nat) (T : World → Prop) : Prop := ∀ {S : Nat → Prop} {a b : World}, Chg S a b → (∀ k, S k → base ≤ k) → T a → T b
theorem word55 {w : World} {r wb : Nat} {s : ByteArray} {ws : List ByteArray} (h : Rd w r wb (s :: ws)) :
    Calls Tryd.prog 55 #[.pointer (some ⟨r, 0, none⟩)] w (Ret fun v w' => v = .string s ∧ Rd w' r wb ws ∧ Chg (fun k => k = r) w w') := by
  obtain ⟨q, l, c, B, H, hc, hq⟩ := h.ex
  have hl := H.len
  simp at hl
  refine f55.calls _ ?_
  unfold f55.wp
  obtain ⟨a, s', rfl, hs, hr⟩ := H.ex (i := 0) (by omega)
  simp at hs
  subst hs
  have hcell := reads_one' hr
  refine onPtr_mk ⟨_, l, c, (B.cell 0).trans rfl, bcF (by simp; omega) (onPtr_mk ⟨_, l, c, (B.cell 0).trans rfl, onPtr_mk ⟨by omega, by omega, s, by simpa [En.str] using hcell, onPtr_mk ⟨_, l, c, (B.cell 0).trans rfl, by omega, by omega, onPtr_mk ⟨B.canStore (Nat.le_of_ble_eq_true rfl), fun w2 e2 => ?_⟩⟩⟩⟩)⟩
  obtain ⟨B2, k2⟩ := B.put0 e2
  refine ⟨rfl, ⟨⟨_, _, _, B2, (RE.cut H (n := 1) (by omega) hc).chgS k2 ?_, by simp; omega, ?_⟩, h.ne⟩, k2⟩
  · intro a' ha' hk
    have e := hq a rfl
    have := h.ne
    simp only [cutP] at ha'
    split at ha' <;> (cases ha'; first | exact this (e.symm.trans hk) | exact this (e.symm.trans ((add_block _ _).symm.trans hk)))
  · intro a' ha'
    have e := hq a rfl
    simp only [cutP] at ha'
    split at ha' <;> (cases ha'; first | exact e | exact (add_block _ _).trans e)
/-- a word that is the number n, in the world's T -/
structure Num (T : World → Prop) (s : ByteArray) (n : Int) : Prop where
  size : s.size ≤ 18
  is : Lib.atoi s.data.toList = some n
  nn : 0 ≤ n
  back : ∀ w', T w' → Calls Tryd.prog 45 #[.int .i64 n] w' (fun e w'' => e = .returned (.string s) ∧ Chg none_ w' w'')
theorem number54 (hT : Stays base T) {w : World} {r wb : Nat} {s : ByteArray} {n : Int} {ws : List ByteArray} (h : Rd w r wb (s :: ws)) (hn : Num T s n) (hb : base ≤ r) (t : T w) :
    Calls Tryd.prog 54 #[.pointer (some ⟨r, 0, none⟩)] w (Ret fun v w' => v = .int .i64 n ∧ Rd w' r wb ws ∧ Chg (fun k => k = r) w w' ∧ T w') := by
  refine f54.calls _ ?_
  unfold f54.wp
  refine Calls.use (word55 h) ?_
  rintro _ w1 ⟨rfl, h1, k1⟩
  refine ⟨s, rfl, (Tryd.strconv_Atoi s n hn.size hn.is w1).mono ?_⟩
  rintro _ _ ⟨rfl, u, rfl⟩
  have k2 : Chg none_ w1 (Lib.bytesWorld w1 5 u) := ⟨rfl, rfl, rfl, by rw [Lib.bytesWorld_size]; omega, fun k hk _ => Lib.bytesWorld_at_old w1 5 u k hk⟩
  have h2 := h1.chgN k2
  have k02 : Chg (fun k => k = r) w (Lib.bytesWorld w1 5 u) := k1.trans (k2.of_none _)
  have t2 := hT k02 (fun k hk => by omega) t
  refine ⟨n, _, rfl, false, _, nil93 _, bcF rfl (bcF (by have := hn.size; simp; omega) ((hn.back _ t2).mono ?_))⟩
  rintro _ w6 ⟨rfl, k6⟩
  have k06 := k02.trans (k6.of_none _)
  exact ⟨s, rfl, bcF (by simp) (bcF (by have := hn.nn; simp; omega) ⟨rfl, h2.chgN k6, k06, hT k06 (fun k hk => by omega) t⟩)⟩
end
end Go.Proofs.YtjfafkgjcgbgfaaDoor
