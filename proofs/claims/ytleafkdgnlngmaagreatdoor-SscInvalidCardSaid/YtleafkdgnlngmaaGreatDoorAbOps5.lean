/- Each operation of the evaluator stands for the model's: make, slices, assertions, maps, ranges, conversions. -/
import Derived.Test.YtleafkdgnlngmaaGreatDoorAbOps4
namespace Go.Ab
open Go
variable [Th]
variable {P : Program} {X : Ext} {η : Operand → Value} {ε : Env} {o : Oper} {β : Bet} {h : H} {w : World} {r : R}

theorem op_makeSlice {t : TypeId} {l c : Operand} (ho : o.op = .makeSlice t l c) (s : Sim β h w) (hε : ∀ x v, ε x = some v → VR β v (η x)) (he : e_makeSlice t l c P X ε h = some r) : OpOk P η o β h w r := by
  simp only [e_makeSlice, ob_eq, bc_none, newSl, Option.some.injEq] at he
  obtain ⟨e, ht, i, hi, lv, hl, ln, hln, cv, hc, cn, hcn, h1, h2, rfl⟩ := he
  obtain ⟨inf, z, g1, g2, g3, g4, g5, g6, g7⟩ := elemInfo_eq hi
  obtain ⟨k1, rfl⟩ := asIdx_eq hln
  obtain ⟨k2, rfl⟩ := asIdx_eq hcn
  have e1 := (hε _ _ hl).int
  have e2 := (hε _ _ hc).int
  have ht' := telem_eq ht
  have hz := ofVals_VR β _ _ g5
  have hn : tsize P e = some i.1 := by unfold tsize; rw [g1]; simp [g2]
  have h1' := ble_t.1 h1
  have h2' : cn * (i.2.1 + 1) ≤ 1099511627776 := ble_t.1 h2
  have hcb : cn * i.2.1 ≤ 1099511627776 := Nat.le_trans (Nat.mul_le_mul_left _ (Nat.le_succ _)) h2'
  have hcn' : cn ≤ 1099511627776 := Nat.le_trans (Nat.le_mul_of_pos_right cn (Nat.succ_pos _)) h2'
  have hrep := repl_VRs hz (by omega) cn
  rw [g7] at hrep
  have hsz : ((Array.range (cn * i.1)).map (z.cells[· % z.cells.size]!)).size = cn * i.1 := by simp
  obtain ⟨β', w', e3, m1, m2, m3⟩ := newCells_ok (ex := true) (rest := #[]) (e := e) s hrep h1' (Nat.le_refl cn) (fun _ => rfl) (es := i.1) (by rw [hsz]; simp)
  refine ⟨β', w', m1, m2, .inl ⟨_, ?_, m3⟩⟩
  subst e3
  have w1 : IntKind.i64.wrap (cn : Int) = cn := by
    rw [wrap_eq]; simp only [sgnK, halfK, modK]
    have : ((cn : Int)) % ((18446744073709551616 : Nat) : Int) = cn := Int.emod_eq_of_lt (by omega) (by omega)
    rw [this, if_neg (by omega)]
  have w2 : IntKind.i64.wrap (ln : Int) = ln := by
    rw [wrap_eq]; simp only [sgnK, halfK, modK]
    have : ((ln : Int)) % ((18446744073709551616 : Nat) : Int) = ln := Int.emod_eq_of_lt (by omega) (by omega)
    rw [this, if_neg (by omega)]
  simp only [execOp, ho, Instr.makeSlice, Sem.run_bind, run_underlying ht', Result.andThen_ok, e1, e2, Go.asInt, asIntOf, Sem.run_pure, run_typeInfo' g1, g3, Int.ofNat_eq_natCast, w1, w2]
  have hcbI : (i.2.1 : Int) * (cn : Int) ≤ 281474976710656 := by
    have : ((cn * i.2.1 : Nat) : Int) ≤ 1099511627776 := by omega
    rw [Int.natCast_mul] at this
    rw [Int.mul_comm]; omega
  have b1 : ((cn : Int) < 0) = False := by simp
  have b2 : (((i.2.1 : Int) * (cn : Int) > 2 ^ 48) : Prop) = False := by simp only [eq_iff_iff, iff_false]; omega
  have b3 : ((ln : Int) < 0) = False := by simp
  have b4 : (((ln : Int) > (cn : Int)) : Prop) = False := by simp only [eq_iff_iff, iff_false]; omega
  simp only [b1, b2, b3, b4, decide_false, Bool.or_false, Bool.false_eq_true, if_false, Sem.run_bind, run_askRoom, Result.andThen_ok, run_sizeOf' hn, Int.toNat_natCast]
  by_cases h0 : cn * i.1 = 0
  · simp only [h0, if_true, Sem.run_bind, Sem.run_pure, Result.andThen_ok]
    simp [newRow, Array.range_zero']
  · simp only [if_neg h0, Sem.run_bind, run_zeroValue' g1 g4, Sem.run_pure, Result.andThen_ok]
    simp [newRow]

/-! slices -/
theorem bnd_ok {lo : Option AV} {lo' : Option Value} (hlo : match lo, lo' with | none, none => True | some a, some v => VR β a v | _, _ => False) {d top n : Nat} (hb : bnd d top lo = some n) (code : BoundsCode) :
    (lo = none ∧ lo' = none ∧ n = d) ∨ (∃ v, lo' = some v ∧ n ≤ top ∧ (Instr.sliceBound v top code).run P w = .ok n w) := by
  cases lo with
  | none =>
    cases lo' with
    | none => simp only [bnd, Option.some.injEq] at hb; exact .inl ⟨rfl, rfl, hb.symm⟩
    | some v => exact hlo.elim
  | some a =>
    cases lo' with
    | none => exact hlo.elim
    | some v =>
      simp only [bnd, ob_eq, bc_none, Option.some.injEq] at hb
      obtain ⟨i, hi, h1, rfl⟩ := hb
      obtain ⟨k, rfl⟩ := asIdx_eq hi
      have e := VR.int hlo
      subst e
      have h1' := ble_t.1 h1
      refine .inr ⟨_, rfl, h1', ?_⟩
      simp only [Instr.sliceBound, asIntOf, Sem.run_bind, Sem.run_pure, Result.andThen_ok]
      rw [if_pos ⟨Int.natCast_nonneg _, by simpa using h1'⟩]
      simp

def OptR (β : Bet) (a : Option AV) (v : Option Value) : Prop := match a, v with | none, none => True | some a, some v => VR β a v | _, _ => False

theorem evO_ok (hε : ∀ x v, ε x = some v → VR β v (η x)) {x : Option Operand} {a : Option AV} (he : evO ε x = some a) : OptR β a (x.map η) := by
  cases x with
  | none => simp only [evO, Option.some.injEq] at he; subst he; trivial
  | some x =>
    simp only [evO, ob_eq, Option.some.injEq] at he
    obtain ⟨v, hv, rfl⟩ := he
    exact hε _ _ hv

theorem bounds_ok {lo hi mx : Option AV} {lo' hi' mx' : Option Value} (h1 : OptR β lo lo') (h2 : OptR β hi hi') (h3 : OptR β mx mx') {len cap m hh l : Nat}
    (b3 : bnd cap cap mx = some m) (b2 : bnd len m hi = some hh) (b1 : bnd 0 hh lo = some l) (is : Bool) (hm : hi = none → mx = none) :
    (Instr.sliceBounds is len cap lo' hi' mx').run P w = .ok (l, hh, m) w ∧ m ≤ cap ∧ l ≤ hh ∧ (hi ≠ none → hh ≤ m) ∧ (hi = none → hh = len) ∧ (mx = none → m = cap) := by
  rcases bnd_ok (P := P) (w := w) h3 b3 (if is then .slice3Acap else .slice3Alen) with ⟨e1, e2, rfl⟩ | ⟨v3, e2, q3, r3⟩
  · subst e1; subst e2
    rcases bnd_ok (P := P) (w := w) h2 b2 (if is then .sliceAcap else .sliceAlen) with ⟨e3, e4, rfl⟩ | ⟨v2, e4, q2, r2⟩
    · subst e3; subst e4
      rcases bnd_ok (P := P) (w := w) h1 b1 .sliceB with ⟨e5, e6, rfl⟩ | ⟨v1, e6, q1, r1⟩
      · subst e5; subst e6
        exact ⟨by simp [Instr.sliceBounds], Nat.le_refl _, Nat.zero_le _, fun hne => absurd rfl hne, fun _ => rfl, fun _ => rfl⟩
      · subst e6
        exact ⟨by simp [Instr.sliceBounds, r1], Nat.le_refl _, q1, fun hne => absurd rfl hne, fun _ => rfl, fun _ => rfl⟩
    · subst e4
      have hne : hi ≠ none := by intro e; subst e; exact h2.elim
      rcases bnd_ok (P := P) (w := w) h1 b1 .sliceB with ⟨e5, e6, rfl⟩ | ⟨v1, e6, q1, r1⟩
      · subst e5; subst e6
        exact ⟨by simp [Instr.sliceBounds, r2], Nat.le_refl _, Nat.zero_le _, fun _ => q2, fun e => absurd e hne, fun _ => rfl⟩
      · subst e6
        exact ⟨by simp [Instr.sliceBounds, r1, r2], Nat.le_refl _, q1, fun _ => q2, fun e => absurd e hne, fun _ => rfl⟩
  · subst e2
    have hmx : mx ≠ none := by intro e; subst e; exact h3.elim
    have hne : hi ≠ none := fun e => hmx (hm e)
    rcases bnd_ok (P := P) (w := w) h2 b2 .slice3B with ⟨e3, e4, _⟩ | ⟨v2, e4, q2, r2⟩
    · exact absurd e3 hne
    · subst e4
      rcases bnd_ok (P := P) (w := w) h1 b1 .slice3C with ⟨e5, e6, rfl⟩ | ⟨v1, e6, q1, r1⟩
      · subst e5; subst e6
        exact ⟨by simp [Instr.sliceBounds, r2, r3], q3, Nat.zero_le _, fun _ => q2, fun e => absurd e hne, fun e => absurd e hmx⟩
      · subst e6
        exact ⟨by simp [Instr.sliceBounds, r1, r2, r3], q3, q1, fun _ => q2, fun e => absurd e hne, fun e => absurd e hmx⟩

omit [Th] in
theorem bnd_mono {d top d' top' n : Nat} {v : Option AV} (hb : bnd d top v = some n) (hne : v ≠ none) (ht : top ≤ top') : bnd d' top' v = some n := by
  cases v with
  | none => exact absurd rfl hne
  | some a =>
    simp only [bnd, ob_eq, bc_none, Option.some.injEq] at hb ⊢
    obtain ⟨i, hi, h1, rfl⟩ := hb
    exact ⟨i, hi, ble_t.2 (Nat.le_trans (ble_t.1 h1) ht), rfl⟩

theorem sl3_ok {es b p cap cc len l hh m m' : Nat} {ex full : Bool} {cb base sz : Nat} (hβ : β b = some (cb, base, sz)) (h1 : len ≤ cap) (h2 : cap ≤ cc) (h3 : ex = true → cc = cap) (h4 : base + p + cc * es ≤ sz)
    (hl : l ≤ hh) (hhm : hh ≤ m) (hm : m ≤ cap) (hm' : m' ≤ cc) (hful : full = true → m' = m) (hfull : full = false → m = cap ∧ m' = cc) :
    VR β (sl3 es b p ex full l hh m) (.slice (some (if m' = l then ⟨cb, base + p, none⟩ else (⟨cb, base + p, none⟩ : Addr).add (l * es))) (hh - l) (m' - l)) := by
  have hmul : ∀ {a b : Nat}, a ≤ b → a * es ≤ b * es := fun h => Nat.mul_le_mul_right _ h
  unfold sl3
  by_cases he : (or ex full) = true
  · have hmm : m' = m := by
      cases full with
      | true => exact hful rfl
      | false =>
        have : ex = true := by simpa using he
        obtain ⟨a, b⟩ := hfull rfl
        rw [a, b, h3 this]
    subst hmm
    rw [he, bc_true]
    simp only [VR]
    by_cases hml : m' = l
    · rw [beq_t.2 hml, bc_true, if_pos hml]
      refine ⟨cb, base, sz, m' - l, hβ, rfl, Nat.sub_le_sub_right hhm l, Nat.le_refl _, fun _ => rfl, ?_⟩
      rw [hml, Nat.sub_self, Nat.zero_mul]; omega
    · rw [beq_f.2 hml, bc_false, if_neg hml, Addr_add]
      refine ⟨cb, base, sz, m' - l, hβ, by rw [Nat.add_assoc]; rfl, Nat.sub_le_sub_right hhm l, Nat.le_refl _, fun _ => rfl, ?_⟩
      have e : (m' - l) * es + l * es = m' * es := by rw [← Nat.add_mul]; congr 1; omega
      have := hmul hm'
      show base + (p + l * es) + (m' - l) * es ≤ sz
      omega
  · have he' : (or ex full) = false := by simpa using he
    rw [he', bc_false]
    obtain ⟨rfl, rfl⟩ := hfull (by cases full <;> simp_all)
    by_cases hc : (or (Nat.beq l 0) (Nat.blt l m)) = true
    · rw [hc, bc_true]
      simp only [VR]
      have hor : l = 0 ∨ l < m := by
        rcases Bool.or_eq_true_iff.1 hc with h | h
        · exact .inl (beq_t.1 h)
        · exact .inr (blt_t.1 h)
      refine ⟨cb, base, sz, m' - l, hβ, ?_, Nat.sub_le_sub_right hhm l, Nat.sub_le_sub_right h2 l, fun e => (by cases e), ?_⟩
      · by_cases hml : m' = l
        · have : l = 0 := by omega
          subst this
          rw [if_pos hml]
          show _ = Value.slice (some ⟨cb, base + (p + 0 * es), none⟩) (hh - 0) (m' - 0)
          simp
        · rw [if_neg hml, Addr_add]
          show _ = Value.slice (some ⟨cb, base + (p + l * es), none⟩) (hh - l) (m' - l)
          rw [Nat.add_assoc]
      · have e : (m' - l) * es + l * es = m' * es := by rw [← Nat.add_mul]; congr 1; omega
        show base + (p + l * es) + (m' - l) * es ≤ sz
        omega
    · have hc' : (or (Nat.beq l 0) (Nat.blt l m)) = false := by
        cases hq : or (Nat.beq l 0) (Nat.blt l m) with
        | true => exact absurd hq hc
        | false => rfl
      rw [hc', bc_false]
      have : hh - l = 0 := by
        have h1 : Nat.blt l m = false := (Bool.or_eq_false_iff.1 hc').2
        have := blt_f.1 h1
        omega
      rw [this]
      simp only [VR]
      exact ⟨_, _, rfl⟩

theorem op_slice {t : TypeId} {x : Operand} {lo hi mx : Option Operand} (ho : o.op = .slice t x lo hi mx) (s : Sim β h w) (hε : ∀ x v, ε x = some v → VR β v (η x)) (he : e_slice t x lo hi mx P X ε h = some r) : OpOk P η o β h w r := by
  simp only [e_slice, ob_eq, retV, Option.some.injEq] at he
  obtain ⟨d, hd, a, hx, lo', hlo, hi', hhi, mx', hmx, v, hv, rfl⟩ := he
  have hu := hε _ _ hx
  have q1 := evO_ok hε hlo
  have q2 := evO_ok hε hhi
  have q3 := evO_ok hε hmx
  unfold sliceV at hv
  cases d <;> simp only [reduceCtorEq] at hv
  · -- a text
    simp only [bc_none, ob_eq] at hv
    obtain ⟨hm, q, hq, hv⟩ := hv
    have := asStr_eq hq
    subst this
    have e1 := hu.str
    simp only [s_str, ob_eq, Option.some.injEq] at hv
    obtain ⟨hh, b2, l, b1, z, hz, rfl⟩ := hv
    have hmn : mx' = none := by cases mx' with | none => rfl | some _ => cases hm
    subst hmn
    have hmxn : mx.map η = none := by
      cases hmm : mx.map η with
      | none => rfl
      | some _ => rw [hmm] at q3; exact q3.elim
    obtain ⟨g1, g2, g3, g4, g5, g6⟩ := bounds_ok (P := P) (w := w) q1 q2 (mx := none) (mx' := none) trivial (cap := q.length) (m := q.length) rfl b2 b1 false (fun _ => rfl)
    have hhl : hh ≤ q.length := by
      by_cases e : hi' = none
      · exact Nat.le_of_eq (g5 e)
      · exact g4 e
    obtain ⟨z1, z2, z3⟩ := takeN_dropN hz
    replace z1 : z.length = hh - l := z1
    replace z3 : ∀ i, i < hh - l → z[i]? = q[l + i]? := z3
    have hsz : (⟨⟨q⟩⟩ : ByteArray).size = q.length := rfl
    refine .plain s (cv := .string ((⟨⟨q⟩⟩ : ByteArray).extract l hh)) ?_ ?_
    · simp only [execOp, ho, Instr.sliceAt, Sem.run_bind, run_underlying hd, Result.andThen_ok, Instr.slice, e1, hmxn, hsz]
      simp [g1]
    · simp only [VR]
      congr 1
      apply ByteArray.ext
      rw [ByteArray.data_extract]
      apply Array.ext'
      rw [Array.toList_extract]
      show (q.drop l).take (hh - l) = z
      apply List.ext_getElem?
      intro i
      by_cases hi2 : i < hh - l
      · rw [List.getElem?_take, if_pos hi2, List.getElem?_drop, z3 i hi2]
      · rw [List.getElem?_take, if_neg hi2, List.getElem?_eq_none (by omega)]
  · -- a slice
    rename_i e
    simp only [bc_none, bc_some, ob_eq] at hv
    obtain ⟨hor, size, hn, h0, hv⟩ := hv
    have himx : hi' = none → mx' = none := by
      intro e; subst e
      cases mx' with
      | none => rfl
      | some _ => cases hor
    have nilc : ∀ {cc : Nat} {aa : Option Addr} {res : AV}, η x = .slice aa 0 cc → (aa = none → cc = 0) → (res = .nils ∧ aa = none ∨ res = .sl0 ∧ aa.isSome) → s_nil res lo' hi' mx' = some v → OpOk P η o β h w (.val v h) := by
      intro cc aa res ex hc hres hv
      simp only [s_nil, ob_eq, Option.some.injEq] at hv
      obtain ⟨m, b3, hh, b2, l, b1, rfl⟩ := hv
      have hm0 : m = 0 := by
        rcases bnd_ok (P := P) (w := w) q3 b3 .slice3Acap with ⟨_, _, e⟩ | ⟨_, _, e, _⟩ <;> omega
      subst hm0
      have hh0 : hh = 0 := by
        rcases bnd_ok (P := P) (w := w) q2 b2 .slice3Acap with ⟨_, _, e⟩ | ⟨_, _, e, _⟩ <;> omega
      subst hh0
      have hl0 : l = 0 := by
        rcases bnd_ok (P := P) (w := w) q1 b1 .slice3Acap with ⟨_, _, e⟩ | ⟨_, _, e, _⟩ <;> omega
      subst hl0
      obtain ⟨m', hb3, hm'⟩ : ∃ m', bnd cc cc mx' = some m' ∧ (m' = 0 ∨ m' = cc) := by
        by_cases e : mx' = none
        · subst e; exact ⟨cc, rfl, .inr rfl⟩
        · exact ⟨0, bnd_mono b3 e (Nat.zero_le _), .inl rfl⟩
      have hb2 : bnd 0 m' hi' = some 0 := by
        by_cases e : hi' = none
        · subst e; rfl
        · exact bnd_mono b2 e (Nat.zero_le _)
      obtain ⟨g1, g2, g3, g4, g5, g6⟩ := bounds_ok (P := P) (w := w) q1 q2 q3 hb3 hb2 b1 true himx
      have hrun : (execOp η o).run P w = .ok (.value (.slice (if m' = 0 then aa else aa.map (·.add (0 * size))) (0 - 0) (m' - 0))) w := by
        simp only [execOp, ho, Instr.sliceAt, Sem.run_bind, run_underlying hd, Result.andThen_ok, Instr.slice, ex, g1, run_sizeOf' hn, Sem.run_pure]
      refine .plain s hrun ?_
      rcases hres with ⟨rfl, rfl⟩ | ⟨rfl, hs⟩
      · have := hc rfl
        have : m' = 0 := by omega
        subst this
        simp [VR]
      · obtain ⟨ad, rfl⟩ := Option.isSome_iff_exists.1 hs
        simp only [VR]
        by_cases e : m' = 0
        · rw [if_pos e]; exact ⟨_, _, rfl⟩
        · rw [if_neg e]; exact ⟨_, _, rfl⟩
    cases a <;> simp only [s_slice, reduceCtorEq] at hv
    · exact nilc (cc := 0) (aa := none) (res := .nils) hu (fun _ => rfl) (.inl ⟨rfl, rfl⟩) hv
    · rename_i b p len cap es ex
      simp only [s_sl, bc_none, ob_eq, Option.some.injEq] at hv
      obtain ⟨hes, m, b3, hh, b2, l, b1, rfl⟩ := hv
      have hes' : size = es := beq_t.1 hes
      subst hes'
      obtain ⟨cb, base, sz, cc, hβ, ev, k1, k2, k3, k4⟩ := hu.sl
      obtain ⟨m', hb3, hful, hfull⟩ : ∃ m', bnd cc cc mx' = some m' ∧ (mx'.isSome = true → m' = m) ∧ (mx'.isSome = false → m = cap ∧ m' = cc) := by
        cases mx' with
        | none => simp only [bnd, Option.some.injEq] at b3; exact ⟨cc, rfl, fun e => (by cases e), fun _ => ⟨b3.symm, rfl⟩⟩
        | some q => exact ⟨m, bnd_mono b3 (by simp) k2, fun _ => rfl, fun e => (by cases e)⟩
      have hmc : m ≤ cap := by
        rcases bnd_ok (P := P) (w := w) q3 b3 .slice3Acap with ⟨_, _, e⟩ | ⟨_, _, e, _⟩ <;> omega
      have hm'c : m' ≤ cc := by
        rcases bnd_ok (P := P) (w := w) q3 hb3 .slice3Acap with ⟨_, _, e⟩ | ⟨_, _, e, _⟩ <;> omega
      have hmm' : m ≤ m' := by
        cases hmx2 : mx'.isSome with
        | true => rw [hful hmx2]; exact Nat.le_refl _
        | false => obtain ⟨a, b⟩ := hfull hmx2; omega
      have hhm : hh ≤ m := by
        by_cases e : hi' = none
        · have := himx e; subst this; subst e
          simp only [bnd, Option.some.injEq] at b2 b3; omega
        · rcases bnd_ok (P := P) (w := w) q2 b2 .slice3Acap with ⟨e', _⟩ | ⟨_, _, e, _⟩
          · exact absurd e' e
          · exact e
      have hb2 : bnd len m' hi' = some hh := by
        by_cases e : hi' = none
        · subst e; exact b2
        · exact bnd_mono b2 e hmm'
      obtain ⟨g1, g2, g3, g4, g5, g6⟩ := bounds_ok (P := P) (w := w) q1 q2 q3 hb3 hb2 b1 true himx
      have hr := sl3_ok (es := size) (b := b) (p := p) (len := len) (hh := hh) (l := l) hβ k1 k2 k3 k4 g3 hhm hmc hm'c hful hfull
      refine .plain s ?_ hr
      simp only [execOp, ho, Instr.sliceAt, Sem.run_bind, run_underlying hd, Result.andThen_ok, Instr.slice, ev, g1, run_sizeOf' hn, Sem.run_pure]
      congr 3
      by_cases e : m' = l
      · rw [if_pos e, if_pos e]
      · rw [if_neg e, if_neg e]; rfl
    · simp only [VR] at hu
      obtain ⟨ad, c, ev⟩ := hu
      exact nilc (cc := c) (aa := some ad) (res := .sl0) ev (fun e => by cases e) (.inr ⟨rfl, rfl⟩) hv
  · -- an array behind a pointer
    rename_i n e
    simp only [bc_none, bc_some, ob_eq] at hv
    obtain ⟨hor, size, hn, h0, p, hp, hv⟩ := hv
    have := asPtr_eq hp
    subst this
    have himx : hi' = none → mx' = none := by
      intro e; subst e
      cases mx' with
      | none => rfl
      | some _ => cases hor
    obtain ⟨cb, base, sz, hβ, ev⟩ := hu.ptr
    simp only [s_arr, bc_some, ob_eq, Option.some.injEq] at hv
    obtain ⟨hn0, c, hc, m, b3, hh, b2, l, b1, rfl⟩ := hv
    have hn0' := beq_f.1 hn0
    have h0' := beq_f.1 h0
    have hin : base + p.2 + n * size ≤ sz := by
      unfold loadCell at hc
      simp only [ob_eq] at hc
      obtain ⟨x', hb, cs, hcs, hv'⟩ := hc
      rw [nth_eq] at hv'
      obtain ⟨cc, e, fr, _, h2, _, _, h5, _⟩ := s.cells hb hcs hβ
      have : p.2 + n * size - 1 < cs.length := by
        rcases Nat.lt_or_ge (p.2 + n * size - 1) cs.length with hh | hh
        · exact hh
        · have e3 : Nat.sub (Nat.add p.2 (Nat.mul n size)) 1 = p.2 + n * size - 1 := rfl
          rw [e3, List.getElem?_eq_none hh] at hv'; cases hv'
      omega
    obtain ⟨g1, g2, g3, g4, g5, g6⟩ := bounds_ok (P := P) (w := w) q1 q2 q3 b3 b2 b1 false himx
    have hhm : hh ≤ m := by
      by_cases e : hi' = none
      · have := himx e; subst this; subst e
        simp only [bnd, Option.some.injEq] at b2 b3; omega
      · exact g4 e
    have hr := sl3_ok (es := size) (b := p.1) (p := p.2) (len := n) (cap := n) (cc := n) (hh := hh) (l := l) (m := m) (m' := m) (ex := true) (full := mx'.isSome) hβ (Nat.le_refl _) (Nat.le_refl _) (fun _ => rfl) hin g3 hhm g2 g2 (fun _ => rfl)
      (fun e => by
        cases mx' with
        | none => exact ⟨g6 rfl, g6 rfl⟩
        | some _ => cases e)
    refine .plain s ?_ hr
    simp only [execOp, ho, Instr.sliceAt, Sem.run_bind, run_underlying hd, Result.andThen_ok, ev, Instr.sureAddr, g1, run_sizeOf' hn, Sem.run_pure]

end Go.Ab
