/- Each operation of the evaluator stands for the model's: numbers, texts, equality, conversions. -/
import Derived.Test.YtleafkdgnlngmaaGreatDoorAbOps2
import Derived.Laws.Strings
set_option linter.unusedVariables false
set_option linter.unusedSimpArgs false
namespace Go.Ab
open Go
variable [Th]
variable {P : Program} {X : Ext} {η : Operand → Value} {ε : Env} {o : Oper} {β : Bet} {h : H} {w : World} {r : R}

/-! numbers of a kind -/
omit [Th] in
theorem bitsK_eq (k : IntKind) : bitsK k = k.bits := by cases k <;> rfl
omit [Th] in
theorem modK_eq (k : IntKind) : modK k = 2 ^ k.bits := by cases k <;> rfl
omit [Th] in
theorem modK_pos (k : IntKind) : 0 < modK k := by cases k <;> decide

omit [Th] in
theorem natK_cast (k : IntKind) (n : Int) : ((natK k n : Nat) : Int) = n % (modK k : Int) := by
  have hp := modK_pos k
  cases n with
  | ofNat m => show ((m % modK k : Nat) : Int) = ((m : Int)) % (modK k : Int); simp
  | negSucc m =>
    show ((modK k - 1 - m % modK k : Nat) : Int) = Int.negSucc m % (modK k : Int)
    rw [Int.negSucc_emod m (by omega)]
    have := Nat.mod_lt m hp
    omega

omit [Th] in
theorem natK_lt (k : IntKind) (n : Int) : natK k n < modK k := by
  have h1 := natK_cast k n
  have hp := modK_pos k
  have := Int.emod_lt_of_pos n (show (0 : Int) < modK k by omega)
  omega

omit [Th] in
theorem wrap_eq (k : IntKind) (n : Int) : k.wrap n = if sgnK k = true ∧ (halfK k : Int) ≤ n % (modK k : Int) then n % (modK k : Int) - (modK k : Int) else n % (modK k : Int) := by
  cases k <;> simp [IntKind.wrap, sgnK, halfK, modK, IntKind.signed, IntKind.bits]

omit [Th] in
theorem backK_eq (k : IntKind) {m : Nat} (hm : m < modK k) : backK k m = k.wrap m := by
  rw [wrap_eq]
  have e : ((m : Int)) % (modK k : Int) = m := Int.emod_eq_of_lt (by omega) (by omega)
  rw [e]
  unfold backK
  by_cases hh : halfK k ≤ m
  · rw [ble_t.2 hh, bc_true]
    have hs : sgnK k = true := by
      cases k <;> first | rfl | (simp [halfK, modK] at hh hm; omega)
    rw [if_pos ⟨hs, by omega⟩, Int.negSucc_eq]
    show -((modK k - 1 - m : Nat) + 1 : Int) = _
    omega
  · rw [ble_f.2 (by omega), bc_false]
    rw [if_neg (by omega)]; rfl

omit [Th] in
theorem wrap_mod (k : IntKind) (a b : Int) (hab : a % (modK k : Int) = b % (modK k : Int)) : k.wrap a = k.wrap b := by
  rw [wrap_eq, wrap_eq, hab]

omit [Th] in
theorem half_lt (k : IntKind) : halfK k ≤ modK k ∧ (sgnK k = false → halfK k = modK k) ∧ (sgnK k = true → 2 * halfK k = modK k) := by
  cases k <;> decide

omit [Th] in
theorem wrapK_eq (k : IntKind) (n : Int) : wrapK k n = k.wrap n := by
  have hp := modK_pos k
  obtain ⟨h1, h2, h3⟩ := half_lt k
  cases n with
  | ofNat m =>
    show bc (Nat.ble (halfK k) m) (backK k (Nat.mod m (modK k))) (Int.ofNat m) = k.wrap (m : Int)
    by_cases hh : halfK k ≤ m
    · rw [ble_t.2 hh, bc_true]
      have e : Nat.mod m (modK k) = m % modK k := rfl
      rw [e, backK_eq k (Nat.mod_lt _ hp)]
      exact wrap_mod k _ _ (by simp)
    · rw [ble_f.2 (by omega), bc_false]
      have hm : m < modK k := by omega
      rw [← backK_eq k hm]
      unfold backK
      rw [ble_f.2 (by omega), bc_false]
  | negSucc m =>
    show bc (sgnK k) (bc (Nat.ble (halfK k) m) (backK k (natK k (Int.negSucc m))) (Int.negSucc m)) (Int.ofNat (natK k (Int.negSucc m))) = k.wrap (Int.negSucc m)
    have hw : backK k (natK k (Int.negSucc m)) = k.wrap (Int.negSucc m) := by
      rw [backK_eq k (natK_lt k _)]
      exact wrap_mod k _ _ (by rw [natK_cast]; simp)
    cases hs : sgnK k with
    | true =>
      rw [bc_true]
      by_cases hh : halfK k ≤ m
      · rw [ble_t.2 hh, bc_true, hw]
      · rw [ble_f.2 (by omega), bc_false, ← hw]
        have hc := natK_cast k (Int.negSucc m)
        rw [Int.negSucc_emod m (by omega)] at hc
        have h3' := h3 hs
        have e : ((m : Int)) % (modK k : Int) = m := Int.emod_eq_of_lt (by omega) (by omega)
        rw [e] at hc
        unfold backK
        rw [ble_t.2 (by omega), bc_true]
        congr 1
        show m = modK k - 1 - natK k (Int.negSucc m)
        omega
    | false =>
      rw [bc_false, ← hw]
      unfold backK
      have := h2 hs
      have := natK_lt k (Int.negSucc m)
      rw [ble_f.2 (by omega), bc_false]

omit [Th] in
theorem eqI_eq (a b : Int) : eqI a b = (a == b) := by
  rw [Bool.eq_iff_iff, beq_iff_eq]
  cases a with
  | ofNat m => cases b with
    | ofNat n => show Nat.beq m n = true ↔ _; rw [beq_t]; exact ⟨fun h => by rw [h], fun h => by injection h⟩
    | negSucc n => simp [eqI]
  | negSucc m => cases b with
    | ofNat n => simp [eqI]
    | negSucc n => show Nat.beq m n = true ↔ _; rw [beq_t]; simp
omit [Th] in
theorem leI_t {a b : Int} : leI a b = true ↔ a ≤ b := by
  cases a with
  | ofNat m => cases b with
    | ofNat n => show Nat.ble m n = true ↔ (m : Int) ≤ (n : Int); rw [ble_t]; omega
    | negSucc n => simp [leI]; omega
  | negSucc m => cases b with
    | ofNat n => simp [leI]; omega
    | negSucc n => show Nat.ble n m = true ↔ _; rw [ble_t]; omega
omit [Th] in
theorem leI_eq (a b : Int) : leI a b = decide (a ≤ b) := by
  rw [Bool.eq_iff_iff, leI_t]; simp

omit [Th] in
theorem toNat_ofInt (k : IntKind) (x : Int) : (BitVec.ofInt k.bits x).toNat = natK k x := by
  rw [BitVec.toNat_ofInt]
  have := natK_cast k x
  rw [modK_eq] at this
  push_cast at this ⊢
  rw [← this]; rfl

omit [Th] in
theorem and_lt {a b m : Nat} (h : a < m) : Nat.land a b < m := Nat.lt_of_le_of_lt Nat.and_le_left h

omit [Th] in
theorem intBin_ok {op : BinOp} {k k' : IntKind} {a b : Int} {v : AV} (he : intBin op k a k' b = some v) (t : TypeId) : ∃ k2 n2, (v = .int k2 n2 ∧ (binOp op t (.int k a) (.int k' b)).run P w = .ok (.int k2 n2) w) ∨ (∃ q, v = .bool q ∧ (binOp op t (.int k a) (.int k' b)).run P w = .ok (.bool q) w) := by
  have hbit : ∀ (n : Nat), n < modK k → k.wrap (n : Int) = backK k n := fun n hn => (backK_eq k hn).symm
  have e2 : modK k = 2 ^ k.bits := modK_eq k
  cases op <;> simp only [intBin, b_add, b_sub, b_mul, b_quo, b_rem, b_and, b_or, b_xor, b_andNot, b_shl, b_shr, b_eql, b_neq, b_lss, b_leq, b_gtr, b_geq, bc_none, bc_some, Option.some.injEq, ob_eq, kEq_t] at he
  · obtain ⟨rfl, rfl⟩ := he
    exact ⟨_, _, .inl ⟨rfl, by rw [wrapK_eq]; simp [binOp_add, Op.intArith]⟩⟩
  · obtain ⟨rfl, rfl⟩ := he
    exact ⟨_, _, .inl ⟨rfl, by rw [wrapK_eq]; simp only [binOp_sub, Op.intArith]; rfl⟩⟩
  · obtain ⟨rfl, rfl⟩ := he
    exact ⟨_, _, .inl ⟨rfl, by rw [wrapK_eq]; simp [binOp_mul, Op.intArith]⟩⟩
  · obtain ⟨rfl, hz, rfl⟩ := he
    rw [eqI_eq] at hz
    have hz' : b ≠ 0 := by simpa using hz
    exact ⟨_, _, .inl ⟨rfl, by rw [wrapK_eq]; simp [binOp_quo, Op.intDiv, hz']⟩⟩
  · obtain ⟨rfl, hz, rfl⟩ := he
    rw [eqI_eq] at hz
    have hz' : b ≠ 0 := by simpa using hz
    exact ⟨_, _, .inl ⟨rfl, by simp [binOp_rem, Op.intDiv, hz']⟩⟩
  · obtain ⟨rfl, rfl⟩ := he
    refine ⟨_, _, .inl ⟨rfl, ?_⟩⟩
    simp only [binOp_and, Op.intBits, BitVec.toNat_and, toNat_ofInt]
    rw [hbit _ (Nat.lt_of_le_of_lt Nat.and_le_left (natK_lt k a))]
    rfl
  · obtain ⟨rfl, rfl⟩ := he
    refine ⟨_, _, .inl ⟨rfl, ?_⟩⟩
    simp only [binOp_or, Op.intBits, BitVec.toNat_or, toNat_ofInt]
    rw [hbit _ (by rw [e2]; exact Nat.or_lt_two_pow (e2 ▸ natK_lt k a) (e2 ▸ natK_lt k b))]
    rfl
  · obtain ⟨rfl, rfl⟩ := he
    refine ⟨_, _, .inl ⟨rfl, ?_⟩⟩
    simp only [binOp_xor, Op.intBits, BitVec.toNat_xor, toNat_ofInt]
    rw [hbit _ (by rw [e2]; exact Nat.xor_lt_two_pow (e2 ▸ natK_lt k a) (e2 ▸ natK_lt k b))]
    rfl
  · obtain ⟨n, hn, rfl⟩ := he
    refine ⟨_, _, .inl ⟨rfl, ?_⟩⟩
    cases b with
    | negSucc m => cases hn
    | ofNat m =>
      simp only [shN, Option.some.injEq] at hn
      subst hn
      simp only [binOp_shl, Op.shift]
      rw [if_neg (by simp), wrapK_eq, bitsK_eq]
      have : minN m k.bits = min (Int.ofNat m).toNat k.bits := by
        unfold minN; rw [bc_ite]; simp only [ble_t]; show _ = min m k.bits; split <;> omega
      rw [this]
      simp
  · obtain ⟨n, hn, rfl⟩ := he
    refine ⟨_, _, .inl ⟨rfl, ?_⟩⟩
    cases b with
    | negSucc m => cases hn
    | ofNat m =>
      simp only [shN, Option.some.injEq] at hn
      subst hn
      simp only [binOp_shr, Op.shift]
      rw [if_neg (by simp), bitsK_eq]
      have : minN m k.bits = min (Int.ofNat m).toNat k.bits := by
        unfold minN; rw [bc_ite]; simp only [ble_t]; show _ = min m k.bits; split <;> omega
      rw [this]
      simp
  · obtain ⟨rfl, rfl⟩ := he
    refine ⟨_, _, .inl ⟨rfl, ?_⟩⟩
    simp only [binOp_andNot, Op.intBits, BitVec.toNat_and, BitVec.toNat_not, toNat_ofInt]
    rw [hbit _ (Nat.lt_of_le_of_lt Nat.and_le_left (natK_lt k a))]
    rw [← e2]
    rfl
  · obtain ⟨rfl, rfl⟩ := he
    exact ⟨k, 0, .inr ⟨_, rfl, by rw [eqI_eq]; simp [binOp_eql]⟩⟩
  · obtain ⟨rfl, rfl⟩ := he
    exact ⟨k, 0, .inr ⟨_, rfl, by rw [eqI_eq]; simp only [binOp_neq]; rfl⟩⟩
  · obtain ⟨rfl, rfl⟩ := he
    exact ⟨k, 0, .inr ⟨_, rfl, by rw [leI_eq, show (!decide (b ≤ a)) = decide (a < b) from by rw [Bool.eq_iff_iff]; simp]; simp only [binOp_lss]; rfl⟩⟩
  · obtain ⟨rfl, rfl⟩ := he
    exact ⟨k, 0, .inr ⟨_, rfl, by rw [leI_eq]; simp only [binOp_leq]; rfl⟩⟩
  · obtain ⟨rfl, rfl⟩ := he
    exact ⟨k, 0, .inr ⟨_, rfl, by rw [leI_eq, show (!decide (a ≤ b)) = decide (a > b) from by rw [Bool.eq_iff_iff]; simp]; simp only [binOp_gtr]; rfl⟩⟩
  · obtain ⟨rfl, rfl⟩ := he
    exact ⟨k, 0, .inr ⟨_, rfl, by rw [leI_eq]; simp only [binOp_geq]; rfl⟩⟩

omit [Th] in
theorem bytesEq_eq : ∀ (a b : List UInt8), bytesEq a b = (a == b)
  | [], [] => rfl
  | [], _ :: _ => rfl
  | _ :: _, [] => rfl
  | a :: x, b :: y => by
    show (bif Nat.beq a.toNat b.toNat then bytesEq x y else false) = _
    rw [bytesEq_eq x y]
    by_cases e : a = b
    · subst e; simp
    · have : Nat.beq a.toNat b.toNat = false := beq_f.2 (fun h => e (UInt8.toNat_inj.1 h))
      rw [this]
      simp [e]

omit [Th] in
theorem bytesLess_eq : ∀ (a b : List UInt8), bytesLess a b = Op.bytesLess a b
  | _, [] => by simp [bytesLess, Op.bytesLess]
  | [], _ :: _ => rfl
  | a :: x, b :: y => by
    show (bif Nat.blt a.toNat b.toNat then true else bif Nat.beq a.toNat b.toNat then bytesLess x y else false) = (decide (a < b) || (a == b && Op.bytesLess x y))
    rw [bytesLess_eq x y]
    by_cases h1 : a < b
    · rw [blt_t.2 (UInt8.lt_iff_toNat_lt.1 h1)]; simp [h1]
    · rw [blt_f.2 (by have := h1; rw [UInt8.lt_iff_toNat_lt] at this; omega)]
      by_cases e : a = b
      · subst e; simp
      · have : Nat.beq a.toNat b.toNat = false := beq_f.2 (fun h => e (UInt8.toNat_inj.1 h))
        rw [this]; simp [h1, e]

theorem strBin_ok {op : BinOp} {a b : List UInt8} {v : AV} (he : strBin op a b = some v) (t : TypeId) : ∃ cv, VR β v cv ∧ (binOp op t (.string ⟨⟨a⟩⟩) (.string ⟨⟨b⟩⟩)).run P w = .ok cv w := by
  have e1 : ByteArray.toList ⟨⟨a⟩⟩ = a := ByteArray.toList_mk a
  have e2 : ByteArray.toList ⟨⟨b⟩⟩ = b := ByteArray.toList_mk b
  cases op <;> simp only [strBin, reduceCtorEq, Option.some.injEq] at he
  · cases hc : Nat.ble (Nat.add a.length b.length) 4611686018427387904 with
    | false => rw [hc] at he; cases he
    | true =>
      rw [hc] at he
      simp only [cond_true, Option.some.injEq] at he
      subst he
      have hl : a.length + b.length ≤ 4611686018427387904 := ble_t.1 hc
      refine ⟨.string ⟨⟨a ++ b⟩⟩, rfl, ?_⟩
      simp only [binOp, Op.stringOp]
      rw [if_neg ?_]
      · have : (⟨⟨a⟩⟩ : ByteArray) ++ ⟨⟨b⟩⟩ = ⟨⟨a ++ b⟩⟩ := by
          apply ByteArray.ext
          simp
        rw [this]; rfl
      · have e3 : (⟨⟨a⟩⟩ : ByteArray).size = a.length := rfl
        have e4 : (⟨⟨b⟩⟩ : ByteArray).size = b.length := rfl
        rw [e3, e4, IntKind.max_i64]
        omega
  all_goals
    subst he
    refine ⟨_, rfl, ?_⟩
    simp only [binOp, Op.stringOp, e1, e2, bytesEq_eq, bytesLess_eq]
    rfl

/-! equality -/
omit [Th] in
theorem isConst_eq {x : Operand} (hh : isConst x = true) : ∃ v, x = .const v := by
  cases x <;> simp [isConst] at hh; exact ⟨_, rfl⟩

theorem plain_not_stringish {b : Nat} {x : AObj} (s : Sim β h w) (hb : h.get b = some x) (hp : asPlain x = true) {cb base sz p : Nat} (hβ : β b = some (cb, base, sz)) :
    ∃ cc e, w.shape? cb = some (e, cc) ∧ ∀ i, w.frozen? ⟨cb, i, none⟩ = false := by
  cases x with
  | cells c q =>
    obtain ⟨cc, e, fr, h1, h2, h3, h4, h5, h6⟩ := s.cells hb rfl hβ
    refine ⟨cc.size, e, by simp [World.shape?, h1], fun i => ?_⟩
    have := h4 hp i
    simp only [World.frozen?, h1]
    rw [← Bool.not_eq_true]
    simpa using this
  | map es => cases hp
  | iter s p => cases hp

omit [Th] in
theorem run_sameAddr_same' (a : Addr) : (sameAddr a a).run P w = .ok true w := by simp [sameAddr]

theorem sameAddr_ok (s : Sim β h w) {a i b j : Nat} {q : Bool} (hq : ptrEq h a i b j = some q) {ca ba sa : Nat} (ha : β a = some (ca, ba, sa)) {cb bb sb : Nat} (hb : β b = some (cb, bb, sb)) :
    (sameAddr ⟨ca, ba + i, none⟩ ⟨cb, bb + j, none⟩).run P w = .ok q w := by
  unfold ptrEq at hq
  by_cases e : a = b
  · subst e
    rw [ha] at hb
    cases hb
    rw [beq_t.2 rfl, bc_true, Option.some.injEq] at hq
    subst hq
    simp only [sameAddr, beq_self_eq_true, if_true, Sem.run_pure]
    congr 1
    rw [Bool.eq_iff_iff, beq_t]
    simp
  · rw [beq_f.2 e, bc_false] at hq
    simp only [ob_eq, bc_none, Option.some.injEq] at hq
    obtain ⟨x, hx, y, hy, px, py, rfl⟩ := hq
    have hne : ca ≠ cb := fun e' => e (s.inj a b x y _ _ hx hy ha hb e')
    obtain ⟨n1, e1, g1, g2⟩ := plain_not_stringish (p := 0) s hx px ha
    obtain ⟨n2, e2, g3, g4⟩ := plain_not_stringish (p := 0) s hy py hb
    have hne' : (ca == cb) = false := by simpa using hne
    simp [sameAddr, hne', g2, g4, noView, viewAt, g1, g3, mayBeOne, stringish]

omit [Th] in
theorem ei_bool (d : Nat) {t : TypeId} (hd : P.underlying t = some .bool) (a b : Bool) : (Op.equalIn (d + 1) t (.bool a) (.bool b)).run P w = .ok (a == b) w := by
  simp [Op.equalIn, run_underlying hd]
omit [Th] in
theorem ei_nilp (d : Nat) {t e : TypeId} (hd : P.underlying t = some (.pointer e)) (b : Option Addr) : (Op.equalIn (d + 1) t (.pointer none) (.pointer b)).run P w = .ok b.isNone w := by
  simp [Op.equalIn, run_underlying hd]
omit [Th] in
theorem ei_ptrn (d : Nat) {t e : TypeId} (hd : P.underlying t = some (.pointer e)) (a : Addr) : (Op.equalIn (d + 1) t (.pointer (some a)) (.pointer none)).run P w = .ok false w := by
  simp [Op.equalIn, run_underlying hd]
omit [Th] in
theorem ei_ptr (d : Nat) {t e : TypeId} (hd : P.underlying t = some (.pointer e)) {n : Nat} (hn : tsize P e = some n) (h0 : n ≠ 0) (a b : Addr) {q : Bool} (hq : (sameAddr a b).run P w = .ok q w) : (Op.equalIn (d + 1) t (.pointer (some a)) (.pointer (some b))).run P w = .ok q w := by
  simp [Op.equalIn, run_underlying hd, run_sizeOf' hn, h0, hq]
omit [Th] in
theorem ei_nils (d : Nat) {t e : TypeId} (hd : P.underlying t = some (.slice e)) (b : Option Addr) (n m : Nat) : (Op.equalIn (d + 1) t (.slice none 0 0) (.slice b n m)).run P w = .ok b.isNone w := by
  simp [Op.equalIn, run_underlying hd]
omit [Th] in
theorem ei_sln (d : Nat) {t e : TypeId} (hd : P.underlying t = some (.slice e)) (a : Addr) (n m : Nat) : (Op.equalIn (d + 1) t (.slice (some a) n m) (.slice none 0 0)).run P w = .ok false w := by
  simp [Op.equalIn, run_underlying hd]
omit [Th] in
theorem ei_nn (d : Nat) {t : TypeId} {ms : Array (String × TypeId)} (hd : P.underlying t = some (.interface ms)) : (Op.equalIn (d + 1) t .nilIface .nilIface).run P w = .ok true w := by
  simp [Op.equalIn, run_underlying hd]
omit [Th] in
theorem ei_ni (d : Nat) {t : TypeId} {ms : Array (String × TypeId)} (hd : P.underlying t = some (.interface ms)) (u : TypeId) (v : Value) : (Op.equalIn (d + 1) t .nilIface (.iface u v)).run P w = .ok false w := by
  simp [Op.equalIn, run_underlying hd]
omit [Th] in
theorem ei_in (d : Nat) {t : TypeId} {ms : Array (String × TypeId)} (hd : P.underlying t = some (.interface ms)) (u : TypeId) (v : Value) : (Op.equalIn (d + 1) t (.iface u v) .nilIface).run P w = .ok false w := by
  simp [Op.equalIn, run_underlying hd]

omit [Th] in
theorem run_equalIn1 (d : Nat) (t : TypeId) (u v : Value) (q : Bool) (hh : (Op.equalIn (d + 1) t u v).run P w = .ok q w) (hd : d = 9999) : (Op.equal t u v).run P w = .ok q w := by
  subst hd; exact hh

theorem eqD_ok (s : Sim β h w) {x y : AV} {lit q : Bool} {t : TypeId} {d : TypeDesc} (hd : P.underlying t = some d) (hq : eqD P h lit d x y = some q) {u v : Value} (hu : VR β x u) (hv : VR β y v) {ox oy : Operand} (hl : lit = true → isConst ox = true ∨ isConst oy = true) :
    (∀ op, (eqGuard op t ox oy u v).run P w = .ok () w) ∧ (binOp .eql t u v).run P w = .ok (.bool q) w ∧ (binOp .neq t u v).run P w = .ok (.bool (!q)) w := by
  have fin : ∀ {u v : Value}, (Op.equal t u v).run P w = .ok q w → binOp .eql t u v = (do pure (.bool (← Op.equal t u v))) → binOp .neq t u v = (do pure (.bool (!(← Op.equal t u v)))) → (binOp .eql t u v).run P w = .ok (.bool q) w ∧ (binOp .neq t u v).run P w = .ok (.bool (!q)) w := by
    intro u v h1 h2 h3
    rw [h2, h3]
    simp [h1]
  unfold eqD at hq
  cases d <;> simp only [reduceCtorEq] at hq
  · -- bool
    cases x <;> simp only [q_bool, reduceCtorEq] at hq
    cases y <;> simp only [q_bool2, reduceCtorEq, Option.some.injEq] at hq
    rename_i a b
    have e1 := hu.bool
    have e2 := hv.bool
    subst e1; subst e2; subst hq
    refine ⟨fun op => by rw [eqGuard_at_bool]; rfl, fin (run_equalIn1 9999 t _ _ _ ?_ rfl) rfl rfl⟩
    rw [ei_bool 9999 hd]
    cases a <;> cases b <;> rfl
  · -- pointer
    rename_i e
    simp only [ob_eq, bc_some] at hq
    obtain ⟨n, hn, h0, hq⟩ := hq
    have h0' := beq_f.1 h0
    cases x <;> simp only [q_ptr, reduceCtorEq] at hq
    · have e1 : u = .pointer none := hu
      subst e1
      refine ⟨fun op => by rw [eqGuard_at_pointer]; rfl, ?_⟩
      cases y <;> simp only [q_nilp, reduceCtorEq, Option.some.injEq] at hq
      · have e2 : v = .pointer none := hv
        subst e2; subst hq
        exact fin (run_equalIn1 9999 t _ _ _ (ei_nilp 9999 hd none) rfl) rfl rfl
      · obtain ⟨cb, base, sz, hβ, e2⟩ := hv.ptr
        subst e2; subst hq
        exact fin (run_equalIn1 9999 t _ _ _ (ei_nilp 9999 hd _) rfl) rfl rfl
    · obtain ⟨cb, base, sz, hβ, e1⟩ := hu.ptr
      subst e1
      refine ⟨fun op => by rw [eqGuard_at_pointer]; rfl, ?_⟩
      cases y <;> simp only [q_ptr2, reduceCtorEq, Option.some.injEq] at hq
      · have e2 : v = .pointer none := hv
        subst e2; subst hq
        exact fin (run_equalIn1 9999 t _ _ _ (ei_ptrn 9999 hd _) rfl) rfl rfl
      · obtain ⟨cb', base', sz', hβ', e2⟩ := hv.ptr
        subst e2
        exact fin (run_equalIn1 9999 t _ _ _ (ei_ptr 9999 hd hn h0' _ _ (sameAddr_ok s hq hβ hβ')) rfl) rfl rfl
  · -- slice
    have hne : ∀ {a : AV} {u : Value} , VR β a u → (∃ b p l c e x, a = .sl b p l c e x) ∨ a = .sl0 → ∃ p l c, u = .slice (some p) l c := by
      rintro a u hh (⟨b, p, l, c, e, x, rfl⟩ | rfl)
      · obtain ⟨cb, base, sz, cc, _, e1, _⟩ := hh.sl; exact ⟨_, _, _, e1⟩
      · obtain ⟨a, c, e1⟩ := hh; exact ⟨_, _, _, e1⟩
    cases x <;> simp only [q_sl, reduceCtorEq] at hq
    · have e1 : u = .slice none 0 0 := hu
      subst e1
      refine ⟨fun op => by rw [eqGuard_at_slice]; rfl, ?_⟩
      cases y <;> simp only [q_nils, reduceCtorEq, Option.some.injEq] at hq
      · have e2 : v = .slice none 0 0 := hv
        subst e2; subst hq
        exact fin (run_equalIn1 9999 t _ _ _ (ei_nils 9999 hd none 0 0) rfl) rfl rfl
      · obtain ⟨p, l, c, e2⟩ := hne hv (.inl ⟨_, _, _, _, _, _, rfl⟩)
        subst e2; subst hq
        exact fin (run_equalIn1 9999 t _ _ _ (ei_nils 9999 hd _ _ _) rfl) rfl rfl
      · obtain ⟨p, l, c, e2⟩ := hne hv (.inr rfl)
        subst e2; subst hq
        exact fin (run_equalIn1 9999 t _ _ _ (ei_nils 9999 hd _ _ _) rfl) rfl rfl
    all_goals
      obtain ⟨p, l, c, e1⟩ := hne hu (by first | exact .inl ⟨_, _, _, _, _, _, rfl⟩ | exact .inr rfl)
      subst e1
      refine ⟨fun op => by rw [eqGuard_at_slice]; rfl, ?_⟩
      cases y <;> simp only [q_sl2, reduceCtorEq, Option.some.injEq] at hq
      have e2 : v = .slice none 0 0 := hv
      subst e2; subst hq
      exact fin (run_equalIn1 9999 t _ _ _ (ei_sln 9999 hd _ _ _) rfl) rfl rfl
  · -- interface
    cases x <;> simp only [q_ifc, reduceCtorEq] at hq
    · have e1 : u = .nilIface := hu
      subst e1
      cases y <;> simp only [q_nili, reduceCtorEq, bc_none, Option.some.injEq] at hq
      · have e2 : v = .nilIface := hv
        subst e2
        obtain ⟨hl', rfl⟩ := hq
        refine ⟨fun op => ?_, fin (run_equalIn1 9999 t _ _ _ (ei_nn 9999 hd) rfl) rfl rfl⟩
        rcases hl hl' with hc | hc <;> obtain ⟨c, rfl⟩ := isConst_eq hc
        · rw [eqGuard_nil_constL]; rfl
        · rw [eqGuard_nil_constR]; rfl
      · simp only [VR] at hv
        obtain ⟨a', e2, _⟩ := hv
        subst e2; subst hq
        refine ⟨fun op => by rw [eqGuard_nil_iface]; rfl, fin (run_equalIn1 9999 t _ _ _ (ei_ni 9999 hd _ _) rfl) rfl rfl⟩
    · simp only [VR] at hu
      obtain ⟨a', e1, _⟩ := hu
      subst e1
      cases y <;> simp only [q_ifc2, reduceCtorEq, Option.some.injEq] at hq
      have e2 : v = .nilIface := hv
      subst e2; subst hq
      refine ⟨fun op => by rw [eqGuard_at_iface]; rfl, fin (run_equalIn1 9999 t _ _ _ (ei_in 9999 hd _ _) rfl) rfl rfl⟩

theorem op_binOp {op : BinOp} {t t' : TypeId} {x y : Operand} (ho : o.op = .binOp op t x y t') (hX : XOk P X) (s : Sim β h w) (hε : ∀ x v, ε x = some v → VR β v (η x)) (he : e_binOp op t x y t' P X ε h = some r) : OpOk P η o β h w r := by
  simp only [e_binOp, ob_eq, retV, Option.some.injEq] at he
  obtain ⟨a, ha, b, hb, v, hv, rfl⟩ := he
  have hu := hε _ _ ha
  have hw := hε _ _ hb
  have hv0 := orE_eq.1 hv
  clear hv
  rcases hv0 with hv | ⟨_, hv⟩
  rotate_left
  · obtain ⟨cv, h1, h2⟩ := hX.bin _ _ _ _ _ hv β _ _ hu hw
    exact .plain s (h2 o η x y t' w ho rfl rfl) h1
  have eqcase : ∀ {a : AV}, VR β a (η x) → bo_eq P h (or (isConst x) (isConst y)) t a op b = some v → OpOk P η o β h w (.val v h) := by
    intro a hu hv
    simp only [bo_eq, ob_eq] at hv
    obtain ⟨d, hd, q, hq, hv⟩ := hv
    obtain ⟨g1, g2, g3⟩ := eqD_ok (ox := x) (oy := y) s hd hq hu hw (by simp)
    cases op <;> simp only [eqBin, reduceCtorEq, Option.some.injEq] at hv
    · subst hv
      exact .plain s (cv := .bool q) (by simp [execOp, ho, g1, g2]) rfl
    · subst hv
      exact .plain s (cv := .bool (!q)) (by simp [execOp, ho, g1, g3]) rfl
  cases a <;> try exact eqcase hu hv
  · rename_i k n
    simp only [binop] at hv
    cases b <;> simp only [bo_int, reduceCtorEq] at hv
    rename_i k' n'
    have e1 := hu.int
    have e2 := hw.int
    obtain ⟨k2, n2, ⟨rfl, g⟩ | ⟨q, rfl, g⟩⟩ := intBin_ok (P := P) (w := w) hv t
    · exact .plain s (cv := .int k2 n2) (by simp [execOp, ho, e1, e2, eqGuard_at_int, g]) rfl
    · exact .plain s (cv := .bool q) (by simp [execOp, ho, e1, e2, eqGuard_at_int, g]) rfl
  · simp only [binop] at hv
    cases b <;> simp only [bo_str, reduceCtorEq] at hv
    have e1 := hu.str
    have e2 := hw.str
    obtain ⟨cv, g1, g2⟩ := strBin_ok (P := P) (w := w) (β := β) hv t
    exact .plain s (cv := cv) (by simp [execOp, ho, e1, e2, eqGuard_at_string, g2]) g1

theorem op_unOp {op : UnOp} {t : TypeId} {x : Operand} (ho : o.op = .unOp op t x) (hX : XOk P X) (s : Sim β h w) (hε : ∀ x v, ε x = some v → VR β v (η x)) (he : e_unOp op t x P X ε h = some r) : OpOk P η o β h w r := by
  simp only [e_unOp, ob_eq, retV, Option.some.injEq] at he
  obtain ⟨a, ha, v, hv, rfl⟩ := he
  have hu := hε _ _ ha
  have hv0 := orE_eq.1 hv
  clear hv
  rcases hv0 with hv | ⟨_, hv⟩
  rotate_left
  · obtain ⟨cv, h1, h2⟩ := hX.un _ _ _ _ hv β _ hu
    exact .plain s (h2 o η x w ho rfl) h1
  cases a <;> simp only [unop, reduceCtorEq] at hv
  · rename_i k n
    have e1 := hu.int
    cases op <;> simp only [u_int, reduceCtorEq, Option.some.injEq] at hv
    · subst hv
      refine .plain s (cv := .int k (k.wrap (0 - n))) (by simp [execOp, ho, e1, Op.unary, Op.intArith]) ?_
      rw [wrapK_eq, show Int.neg n = 0 - n by rw [Int.zero_sub]; rfl]; rfl
    · subst hv
      have e2 : modK k = 2 ^ k.bits := modK_eq k
      have key : natK k n ^^^ natK k (if k.signed then -1 else k.max) = modK k - 1 - natK k n := by
        have h1 : natK k (if k.signed then -1 else k.max) = modK k - 1 := by cases k <;> decide
        rw [h1, e2]
        have := natK_lt k n
        rw [e2] at this
        apply Nat.eq_of_testBit_eq
        intro i
        rw [Nat.testBit_xor, Nat.testBit_two_pow_sub_one]
        rw [show 2 ^ k.bits - 1 - natK k n = 2 ^ k.bits - (natK k n + 1) by omega, Nat.testBit_two_pow_sub_succ this]
        by_cases hi : i < k.bits
        · simp [hi, Bool.xor_comm]
        · have : (natK k n).testBit i = false := Nat.testBit_lt_two_pow (Nat.lt_of_lt_of_le this (Nat.pow_le_pow_right (by decide) (by omega)))
          simp [hi, this]
      rw [Nat.xor_comm] at key
      refine .plain s (cv := .int k (k.wrap ((natK k (if k.signed then -1 else k.max) ^^^ natK k n : Nat) : Int))) ?_ ?_
      · simp only [execOp, ho, e1, Op.unary, Op.intBits, BitVec.toNat_xor, toNat_ofInt]
        rfl
      · rw [key, ← backK_eq k (by have := modK_pos k; omega)]; rfl
  · have e1 := hu.bool
    cases op <;> simp only [u_bool, reduceCtorEq, Option.some.injEq] at hv
    subst hv
    exact .plain s (cv := _) (by simp [execOp, ho, e1, Op.unary]) rfl

end Go.Ab
