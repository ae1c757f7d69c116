/- SscInvalid's input, as far as it is not looked at: unknown values, and what operations on them come to. -/
import Derived.Test.YtleafkdgnlngmaaGreatDoorSiMay
import Derived.Test.YtleafkdgnlngmaaGreatDoorAbHk
set_option linter.unusedVariables false
set_option linter.unusedSimpArgs false
namespace Go.Ab.T
open Go Go.Ab Go.Proofs

/-- an input: an order, a size, a name -/
structure Inp where
  addr : Int
  p : Option Addr
  n : Nat
  c : Nat
  kind : Int
  many : Int
  size : Int
  name : List UInt8

def u64of (z : Int) : Nat := (z % 18446744073709551616).toNat
def Inp.low (I : Inp) : Nat := u64of I.size % 128

def val (I : Inp) : Nat → Option Value
  | 1 => some (.int .u64 I.addr) | 2 => some (.slice I.p I.n I.c) | 3 => some (.int .i64 I.size) | 4 => some (.string ⟨⟨I.name⟩⟩) | 5 => some (.int .i64 (I.n : Int))
  | 6 => some (.int .i64 I.kind) | 7 => some (.int .i64 I.many) | 8 => some (.int .u64 (u64of I.size : Int)) | 9 => some (.int .u64 (I.low : Int)) | 10 => some (.int .i64 (I.low : Int))
  | 11 => some (.int .i64 (I.name.length : Int)) | 12 => some (.string ⟨⟨I.name ++ [45]⟩⟩) | _ => none
theorem val_one (I : Inp) (i : Nat) (v : Value) (h : val I i = some v) : v.oneCell' = true := by
  unfold val at h
  split at h <;> first | (cases h; rfl) | (cases h)

@[reducible] def th (I : Inp) : Th := ⟨fun i v => (i = 0 ∧ v.oneCell' = true) ∨ (i = 13 ∧ ∃ p c, v = .slice p I.low c) ∨ val I i = some v, fun i v h => by
  rcases h with h | ⟨_, p, c, rfl⟩ | h
  · exact h.2
  · rfl
  · exact val_one I i v h⟩

/-- what is known of an input -/
structure Flags where
  big : Option Bool
  long : Option Bool
  full : Option Bool
  neg : Option Bool
  much : Option Bool
  kind : Option Int
  other : Bool
structure Fits (f : Flags) (I : Inp) : Prop where
  big : ∀ b, f.big = some b → b = decide ((300 : Int) < (I.n : Int))
  long : ∀ b, f.long = some b → b = decide ((100 : Int) < (I.name.length : Int))
  full : ∀ b, f.full = some b → b = decide ((I.n : Int) = 128)
  neg : ∀ b, f.neg = some b → b = decide (I.many < 0)
  much : ∀ b, f.much = some b → b = decide (64 < I.many)
  kind : ∀ k, f.kind = some k → I.kind = k
  other : f.other = true → I.kind < 1 ∨ 6 < I.kind

noncomputable def isK16 (b : AV) : Bool := match b with | .int k z => bc (kEq .i64 k) (bc (leI 1 z) (leI z 6) false) false | _ => false
noncomputable def hkind (f : Flags) (op : BinOp) (b : AV) : Option AV := match b with
  | .int .i64 z => ob f.kind fun k => intBin op .i64 k .i64 z
  | _ => none
noncomputable def hbin (f : Flags) (op : BinOp) (a b : AV) : Option AV := match op with
  | .gtr => bc (isJ 6 a) (hkind f .gtr b) (bc (isJ 5 a) (bc (isI .i64 300 b) (ob f.big fun b => some (.bool b)) none) (bc (isJ 11 a) (bc (isI .i64 100 b) (ob f.long fun b => some (.bool b)) none) none))
  | .lss => bc (isJ 6 a) (hkind f .lss b) none
  | .neq => bc (isJ 5 a) (bc (isI .i64 128 b) (ob f.full fun b => some (.bool (!b))) none) none
  | .eql => bc (isJ 6 a) (bc f.other (bc (isK16 b) (some (.bool false)) none) (hkind f .eql b)) (bc (isJ 5 a) (bc (isI .i64 128 b) (ob f.full fun b => some (.bool b)) none) (bc (isJ 10 a) (bc (isI .i64 128 b) (some (.bool false)) none) none))
  | .geq => bc (isJ 7 a) (bc (isI .i64 0 b) (ob f.neg fun b => some (.bool (!b))) none) none
  | .leq => bc (isJ 7 a) (bc (isI .i64 64 b) (ob f.much fun b => some (.bool (!b))) none) none
  | .rem => bc (isJ 8 a) (bc (isI .u64 128 b) (some (.junk 9)) none) none
  | .add => bc (isJ 4 a) (bc (isS [45] b) (ob f.long fun q => bc q none (some (.junk 12))) none) none
  | _ => none
noncomputable def hcv (s d : TypeDesc) (a : AV) : Option AV := match s, d with
  | .int .i64, .int .u64 => bc (isJ 3 a) (some (.junk 8)) none
  | .int .u64, .int .i64 => bc (isJ 9 a) (some (.junk 10)) none
  | _, _ => none
noncomputable def hlen (ts : Array TypeId) (args : List AV) : Option AV := match ts.toList, args with
  | [t], [a] => bc (Nat.beq t 35) (bc (isJ 2 a) (some (.junk 5)) (bc (isJ 13 a) (some (.junk 10)) none)) (bc (Nat.beq t 9) (bc (isJ 4 a) (some (.junk 11)) none) none)
  | _, _ => none
noncomputable def X1 (f : Flags) : Ext :=
  ⟨(mkX 102).fn, fun op _ a b => hbin f op a b, fun _ _ _ => none, hcv, fun b ts args => match b with | .len => hlen ts args | _ => none⟩

section
variable {I : Inp} {f : Flags}
theorem J_val {i : Nat} {v u : Value} (h : (th I).J i v) (h0 : i ≠ 0) (h13 : i ≠ 13) (hu : val I i = some u) : v = u := by
  rcases h with h | h | h
  · exact absurd h.1 h0
  · exact absurd h.1 h13
  · rw [hu] at h; cases h; rfl
theorem val_J {i : Nat} {v : Value} (h : val I i = some v) : (th I).J i v := .inr (.inr h)

theorem Fits.short (F : Fits f I) (h : f.long = some false) : I.name.length < 4294967296 := by
  have := F.long false h
  have := of_decide_eq_false this.symm
  omega
theorem xok (F : Fits f I) : @XOk (th I) Tryz.prog (X1 f) := by
  letI : Th := th I
  have hm : @XOk (th I) Tryz.prog (mkX 102) :=
    @mkX_ok (th I) Tryz.prog (fun v hv => .inl ⟨rfl, hv⟩) 102 Tryz.f102 35 5 #[3] Tryz.func102 (by kernel_rfl) (by kernel_rfl) (by kernel_rfl) Tryz.underlying35
  refine ⟨hm.fn, fun op t a b v he β va vb ha hb => ?_, fun _ _ _ _ e => by (cases e), fun s d s' d' a v hs hd he β va ha => ?_, fun b ts args v he β cargs hv => ?_⟩
  · have he' : hbin f op a b = some v := he
    have boolc : ∀ (i : Nat) (k : IntKind) (x y : Int) (q : Bool), a = .junk i → b = .int k y → i ≠ 0 → i ≠ 13 → val I i = some (.int k x) → intBin op k x k y = some (.bool q) → v = .bool q →
        ∃ cv, VR β v cv ∧ ∀ (o : Oper) (η : Operand → Value) x y t' w, o.op = .binOp op t x y t' → η x = va → η y = vb → (execOp η o).run Tryz.prog w = .ok (.value cv) w := by
      intro i k x y q ea eb h0 h13 hval hq ev
      subst ea; subst eb; subst ev
      have e1 := J_val ha h0 h13 hval
      have e2 : vb = .int k y := hb
      subst e1; subst e2
      exact ⟨.bool q, rfl, fun o η x y t' w ho hx hy => run_bin_bool hq ho hx hy⟩
    have kindc : isJ 6 a = true → hkind f op b = some v → (∀ k z v, intBin op .i64 k .i64 z = some v → ∃ q, v = .bool q) →
        ∃ cv, VR β v cv ∧ ∀ (o : Oper) (η : Operand → Value) x y t' w, o.op = .binOp op t x y t' → η x = va → η y = vb → (execOp η o).run Tryz.prog w = .ok (.value cv) w := by
      intro h6 hk hq0
      unfold hkind at hk
      split at hk
      · rename_i z
        rw [ob_eq] at hk
        obtain ⟨k, hkk, hk⟩ := hk
        obtain ⟨q, rfl⟩ := hq0 _ _ _ hk
        have := F.kind k hkk
        subst this
        exact boolc 6 .i64 _ _ _ (isJ_eq h6) rfl (by decide) (by decide) rfl hk rfl
      · cases hk
    cases op <;> simp only [hbin, reduceCtorEq] at he'
    · -- add
      rw [bc_none, bc_none, ob_eq] at he'
      obtain ⟨h1, h2, q, hq, he'⟩ := he'
      rw [bc_some, Option.some.injEq] at he'
      obtain ⟨rfl, rfl⟩ := he'
      have hlen : I.name.length < 4294967296 := F.short hq
      have := isJ_eq h1; subst this
      have := isS_eq h2; subst this
      have e1 := J_val ha (by decide) (by decide) (show val I 4 = some _ from rfl)
      have e2 : vb = .string ⟨⟨[45]⟩⟩ := hb
      subst e1; subst e2
      exact ⟨.string ⟨⟨I.name ++ [45]⟩⟩, val_J rfl, fun o η x y t' w ho hx hy => run_add_str (by simp; omega) ho hx hy⟩
    · -- rem
      rw [bc_none, bc_none, Option.some.injEq] at he'
      obtain ⟨h1, h2, rfl⟩ := he'
      have := isJ_eq h1; subst this
      have := isI_eq h2; subst this
      have e1 := J_val ha (by decide) (by decide) (show val I 8 = some _ from rfl)
      have e2 : vb = .int .u64 128 := hb
      subst e1; subst e2
      refine ⟨.int .u64 (I.low : Int), val_J rfl, fun o η x y t' w ho hx hy => run_bin_int ?_ ho hx hy⟩
      rw [bi_rem (by decide)]; rfl
    · -- eql
      rw [bc_ite] at he'
      split at he'
      · rename_i h6
        rw [bc_ite] at he'
        split at he'
        · rename_i ho
          rw [bc_none, Option.some.injEq] at he'
          obtain ⟨h1, rfl⟩ := he'
          cases b <;> simp only [isK16, reduceCtorEq, Bool.false_eq_true] at h1
          rename_i k z
          rw [bc_and, bc_and, leI_dec, leI_dec, decide_eq_true_eq, decide_eq_true_eq] at h1
          have := kEq_eq h1.1
          subst this
          refine boolc 6 .i64 _ _ _ (isJ_eq h6) rfl (by decide) (by decide) rfl ?_ rfl
          rw [bi_eql, decide_eq_false]
          have := F.other ho
          omega
        · exact kindc h6 he' (by intro k z v h; rw [bi_eql] at h; cases h; exact ⟨_, rfl⟩)
      · rw [bc_ite] at he'
        split at he'
        · rename_i h1
          rw [bc_none, ob_eq] at he'
          obtain ⟨h2, q, hq, he'⟩ := he'
          cases he'
          exact boolc 5 .i64 _ _ _ (isJ_eq h1) (isI_eq h2) (by decide) (by decide) rfl (by rw [bi_eql, F.full q hq]) rfl
        · rw [bc_none, bc_none, Option.some.injEq] at he'
          obtain ⟨h1, h2, rfl⟩ := he'
          refine boolc 10 .i64 _ _ _ (isJ_eq h1) (isI_eq h2) (by decide) (by decide) rfl ?_ rfl
          rw [bi_eql, decide_eq_false]
          have : I.low < 128 := Nat.mod_lt _ (by decide)
          omega
    · -- neq
      rw [bc_none, bc_none, ob_eq] at he'
      obtain ⟨h1, h2, q, hq, he'⟩ := he'
      cases he'
      exact boolc 5 .i64 _ _ _ (isJ_eq h1) (isI_eq h2) (by decide) (by decide) rfl (by rw [bi_neq, F.full q hq]) rfl
    · -- lss
      rw [bc_none] at he'
      exact kindc he'.1 he'.2 (by intro k z v h; rw [bi_lss] at h; cases h; exact ⟨_, rfl⟩)
    · -- leq
      rw [bc_none, bc_none, ob_eq] at he'
      obtain ⟨h1, h2, q, hq, he'⟩ := he'
      cases he'
      refine boolc 7 .i64 _ _ _ (isJ_eq h1) (isI_eq h2) (by decide) (by decide) rfl ?_ rfl
      rw [bi_leq, F.much q hq]
      by_cases h : 64 < I.many
      · rw [decide_eq_true h, decide_eq_false (by omega)]; rfl
      · rw [decide_eq_false h, decide_eq_true (by omega)]; rfl
    · -- gtr
      rw [bc_ite] at he'
      split at he'
      · rename_i h6
        exact kindc h6 he' (by intro k z v h; rw [bi_gtr] at h; cases h; exact ⟨_, rfl⟩)
      · rw [bc_ite] at he'
        split at he'
        · rename_i h1
          rw [bc_none, ob_eq] at he'
          obtain ⟨h2, q, hq, he'⟩ := he'
          cases he'
          exact boolc 5 .i64 _ _ _ (isJ_eq h1) (isI_eq h2) (by decide) (by decide) rfl (by rw [bi_gtr, F.big q hq]) rfl
        · rw [bc_none, bc_none, ob_eq] at he'
          obtain ⟨h1, h2, q, hq, he'⟩ := he'
          cases he'
          exact boolc 11 .i64 _ _ _ (isJ_eq h1) (isI_eq h2) (by decide) (by decide) rfl (by rw [bi_gtr, F.long q hq]) rfl
    · -- geq
      rw [bc_none, bc_none, ob_eq] at he'
      obtain ⟨h1, h2, q, hq, he'⟩ := he'
      cases he'
      refine boolc 7 .i64 _ _ _ (isJ_eq h1) (isI_eq h2) (by decide) (by decide) rfl ?_ rfl
      rw [bi_geq, F.neg q hq]
      by_cases h : I.many < 0
      · rw [decide_eq_true h, decide_eq_false (by omega)]; rfl
      · rw [decide_eq_false h, decide_eq_true (by omega)]; rfl
  · have he' : hcv s d a = some v := he
    unfold hcv at he'
    split at he'
    · rw [bc_none, Option.some.injEq] at he'
      obtain ⟨h1, rfl⟩ := he'
      have := isJ_eq h1; subst this
      have e1 := J_val ha (by decide) (by decide) (show val I 3 = some _ from rfl)
      subst e1
      refine ⟨.int .u64 (u64of I.size : Int), val_J rfl, fun o η x w ho hx => ?_⟩
      rw [run_cv_int hs hd ho hx]
      have : IntKind.u64.wrap I.size = (u64of I.size : Int) := by
        rw [wrap_eq, if_neg (by simp [sgnK])]
        show I.size % ((18446744073709551616 : Nat) : Int) = _
        unfold u64of; omega
      rw [this]
    · rw [bc_none, Option.some.injEq] at he'
      obtain ⟨h1, rfl⟩ := he'
      have := isJ_eq h1; subst this
      have e1 := J_val ha (by decide) (by decide) (show val I 9 = some _ from rfl)
      subst e1
      refine ⟨.int .i64 (I.low : Int), val_J rfl, fun o η x w ho hx => ?_⟩
      rw [run_cv_int hs hd ho hx]
      have : I.low < 128 := Nat.mod_lt _ (by decide)
      rw [wrap_fit (show I.low < 9223372036854775808 by omega)]
    · cases he'
  · have he0 : (X1 f).bu b ts args = some v := he
    cases b <;> simp only [X1, reduceCtorEq] at he0
    unfold hlen at he0
    split at he0
    · rename_i t a hts
      obtain ⟨tl⟩ := ts
      simp only at hts
      subst hts
      simp only [VRs] at hv
      obtain ⟨u, us, h1, ha, rfl⟩ := hv
      have hcargs : cargs = #[u] := by cases cargs; simp only at h1; rw [h1]
      subst hcargs
      rw [bc_ite] at he0
      split at he0
      · rename_i ht
        have := beq_t.1 ht; subst this
        rw [bc_ite] at he0
        split at he0
        · rename_i h2
          cases he0
          have := isJ_eq h2; subst this
          have e1 := J_val ha (by decide) (by decide) (show val I 2 = some _ from rfl)
          subst e1
          exact ⟨.int .i64 (I.n : Int), val_J rfl, fun o η c w ho hc hts hargs => run_len_slice Tryz.underlying35 ho hc hts hargs⟩
        · rw [bc_none, Option.some.injEq] at he0
          obtain ⟨h2, rfl⟩ := he0
          have := isJ_eq h2; subst this
          have hJ : (th I).J 13 u := ha
          rcases hJ with h | ⟨_, p, c, rfl⟩ | h
          · exact absurd h.1 (by decide)
          · exact ⟨.int .i64 (I.low : Int), val_J rfl, fun o η c w ho hc hts hargs => run_len_slice Tryz.underlying35 ho hc hts hargs⟩
          · cases h
      · rw [bc_none, bc_none, Option.some.injEq] at he0
        obtain ⟨ht, h2, rfl⟩ := he0
        have := beq_t.1 ht; subst this
        have := isJ_eq h2; subst this
        have e1 := J_val ha (by decide) (by decide) (show val I 4 = some _ from rfl)
        subst e1
        exact ⟨.int .i64 (I.name.length : Int), val_J rfl, fun o η c w ho hc hts hargs => run_len_str u9 ho hc hts hargs⟩
    · cases he0

/-! what is called with unknown values -/
noncomputable def sFill : Caller := fun _ args h => match args with | [a, b] => bc (isI .i64 1 a) (bc (isJ 10 b) (some (.junk 13, h)) none) none | _ => none
noncomputable def sMay (f : Flags) : Caller := fun _ args h => match args with | [a] => bc (isJ 12 a) (ob f.long fun q => bc q none (some (.bool false, h))) none | _ => none
noncomputable def sAwake : Caller := fun _ args h => match args with | [] => some (.bool true, h) | _ => none
noncomputable def S1 : Specs := fun k => bc (Nat.beq k 270) (some sStep) (bc (Nat.beq k 169) (some sEqual) (bc (Nat.beq k 12) (some sFill) (bc (Nat.beq k 14) (some sAwake) none)))
noncomputable def S2 (f : Flags) : Specs := fun k => bc (Nat.beq k 31) (some (sMay f)) (S1 k)

theorem fill_spec (F : Fits f I) (args : List AV) (h : H) (v : AV) (h' : H) (hg : sFill 12 args h = some (v, h')) : @ACall (th I) Tryz.prog 12 args h (fun v' h2 => v' = v ∧ h2 = h') := by
  letI : Th := th I
  unfold sFill at hg
  split at hg
  · rename_i a b
    rw [bc_none, bc_none, Option.some.injEq, Prod.mk.injEq] at hg
    obtain ⟨h1, h2, rfl, rfl⟩ := hg
    have := isI_eq h1; subst this
    have := isJ_eq h2; subst this
    have hlow : I.low < 128 := Nat.mod_lt _ (by decide)
    have hc := fill_ok (h := h) pok (xok F) 1 (I.low : Int) I.low (by omega) (fun i hi => by omega)
    refine ACall.gc (Q := fun v h' => Own h' v (fills 1 I.low) ∧ h.next ≤ h'.next ∧ ∀ b, b < h.next → h'.get b = h.get b) ?_ ?_
    · intro β w cargs g s hv
      refine hc β w cargs g s ?_
      simp only [VRs, VR] at hv ⊢
      obtain ⟨u, us, e1, rfl, u2, us2, e2, hJ, rfl⟩ := hv
      subst e2
      have e3 := J_val hJ (by decide) (by decide) (show val I 10 = some _ from rfl)
      subst e3
      exact ⟨_, _, e1, rfl, _, _, rfl, rfl, rfl⟩
    · rintro v h' ⟨how, hnx, hold⟩
      refine ⟨hold, fun β1 β2 cv hv => ?_⟩
      refine Or.inr (Or.inl ⟨rfl, ?_⟩)
      rcases how with ⟨rfl, e⟩ | ⟨b, rfl, _, _⟩
      · have hv' : cv = .slice none 0 0 := hv
        have : I.low = 0 := by have := fills_length 1 I.low; rw [e] at this; simpa using this.symm
        exact ⟨none, 0, by rw [hv', this]⟩
      · simp only [VR] at hv
        obtain ⟨cb, base, sz, cc, _, rfl, _⟩ := hv
        exact ⟨_, _, by rw [fills_length]⟩
  · cases hg

theorem may_spec (F : Fits f I) (args : List AV) (h : H) (v : AV) (h' : H) (hg : sMay f 31 args h = some (v, h')) : @ACall (th I) Tryz.prog 31 args h (fun v' h2 => v' = v ∧ h2 = h') := by
  letI : Th := th I
  unfold sMay at hg
  split at hg
  · rename_i a
    rw [bc_none, ob_eq] at hg
    obtain ⟨h1, q, hq, hg⟩ := hg
    rw [bc_some, Option.some.injEq, Prod.mk.injEq] at hg
    obtain ⟨rfl, rfl, rfl⟩ := hg
    have := isJ_eq h1; subst this
    intro β w cargs g s hv
    refine lmay_ok (h := h) pok (xok F) I.name (F.short hq) β w cargs g s ?_
    simp only [VRs, VR] at hv ⊢
    obtain ⟨u, us, e1, hJ, rfl⟩ := hv
    have e3 := J_val hJ (by decide) (by decide) (show val I 12 = some _ from rfl)
    subst e3
    exact ⟨_, _, e1, rfl, rfl⟩
  · cases hg
end
end Go.Ab.T
