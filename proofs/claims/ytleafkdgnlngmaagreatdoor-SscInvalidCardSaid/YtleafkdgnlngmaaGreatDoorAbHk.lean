/- What operations on values come to, as the rule for unknown values asks it. -/
import Derived.Test.YtleafkdgnlngmaaGreatDoorAbCut
set_option linter.unusedSimpArgs false
namespace Go.Ab
open Go
variable {P : Program} {w : World}

theorem run_bin_bool {op : BinOp} {k : IntKind} {x y : Int} {q : Bool} (hb : intBin op k x k y = some (.bool q)) {o : Oper} {η : Operand → Value} {xo yo : Operand} {t t' : TypeId}
    (ho : o.op = .binOp op t xo yo t') (hx : η xo = .int k x) (hy : η yo = .int k y) : (execOp η o).run P w = .ok (.value (.bool q)) w := by
  obtain ⟨k2, n2, ⟨e, _⟩ | ⟨q2, e, g⟩⟩ := intBin_ok (P := P) (w := w) hb t
  · cases e
  · cases e
    simp [execOp, ho, hx, hy, eqGuard_at_int, g]

theorem run_bin_int {op : BinOp} {k : IntKind} {x y z : Int} (hb : intBin op k x k y = some (.int k z)) {o : Oper} {η : Operand → Value} {xo yo : Operand} {t t' : TypeId}
    (ho : o.op = .binOp op t xo yo t') (hx : η xo = .int k x) (hy : η yo = .int k y) : (execOp η o).run P w = .ok (.value (.int k z)) w := by
  obtain ⟨k2, n2, ⟨e, g⟩ | ⟨q2, e, _⟩⟩ := intBin_ok (P := P) (w := w) hb t
  · cases e
    simp [execOp, ho, hx, hy, eqGuard_at_int, g]
  · cases e

theorem run_add_str {a b : List UInt8} (hs : a.length + b.length ≤ 4611686018427387904) {o : Oper} {η : Operand → Value} {xo yo : Operand} {t t' : TypeId}
    (ho : o.op = .binOp .add t xo yo t') (hx : η xo = .string ⟨⟨a⟩⟩) (hy : η yo = .string ⟨⟨b⟩⟩) : (execOp η o).run P w = .ok (.value (.string ⟨⟨a ++ b⟩⟩)) w := by
  letI : Th := ⟨fun _ _ => False, fun _ _ h => h.elim⟩
  have hb : strBin .add a b = some (.str (a ++ b)) := by
    show (bif Nat.ble (Nat.add a.length b.length) 4611686018427387904 then some (AV.str (a ++ b)) else none) = _
    rw [show Nat.ble (Nat.add a.length b.length) 4611686018427387904 = true from ble_t.2 hs]; rfl
  obtain ⟨cv, g1, g2⟩ := strBin_ok (P := P) (w := w) (β := fun _ => none) hb t
  have : cv = .string ⟨⟨a ++ b⟩⟩ := g1
  subst this
  simp [execOp, ho, hx, hy, eqGuard_at_string, g2]

theorem run_cv_int {k1 k2 : IntKind} {s' d' : TypeId} {n : Int} (hs : P.underlying s' = some (.int k1)) (hd : P.underlying d' = some (.int k2)) {o : Oper} {η : Operand → Value} {x : Operand}
    (ho : o.op = .convert s' d' x) (hx : η x = .int k1 n) : (execOp η o).run P w = .ok (.value (.int k2 (k2.wrap n))) w := by
  simp [execOp, ho, convert, run_underlying hs, run_underlying hd, hx, Conv.intToInt]

theorem run_len_slice {t e : TypeId} {p : Option Addr} {n c : Nat} (ht : P.underlying t = some (.slice e)) {o : Oper} {η : Operand → Value} {cl : Call}
    (ho : o.op = .call cl) (hc : cl.callee = .builtin .len) (hts : cl.argTypes = #[t]) (ha : cl.args.map η = #[.slice p n c]) : (execOp η o).run P w = .ok (.value (.int .i64 (n : Int))) w := by
  obtain ⟨callee, args, ts⟩ := cl
  simp only at hc hts ha
  subst hc; subst hts
  have h0 : (Builtin.len_ #[t] o.type #[.slice p n c]).run P w = .ok (.int .i64 (n : Int)) w := by
    simp [Builtin.len_, run_underlying ht]; rfl
  simp [execOp, ho, resolve, invoke, builtin, ha, h0]

theorem run_len_str {t : TypeId} {l : List UInt8} (ht : P.underlying t = some .string) {o : Oper} {η : Operand → Value} {cl : Call}
    (ho : o.op = .call cl) (hc : cl.callee = .builtin .len) (hts : cl.argTypes = #[t]) (ha : cl.args.map η = #[.string ⟨⟨l⟩⟩]) : (execOp η o).run P w = .ok (.value (.int .i64 (l.length : Int))) w := by
  obtain ⟨callee, args, ts⟩ := cl
  simp only at hc hts ha
  subst hc; subst hts
  have h0 : (Builtin.len_ #[t] o.type #[.string ⟨⟨l⟩⟩]).run P w = .ok (.int .i64 (l.length : Int)) w := by
    simp [Builtin.len_, run_underlying ht]; rfl
  simp [execOp, ho, resolve, invoke, builtin, ha, h0]

noncomputable def isJ (i : Nat) (v : AV) : Bool := match v with | .junk j => Nat.beq i j | _ => false
noncomputable def isI (k : IntKind) (n : Int) (v : AV) : Bool := match v with | .int k' z => bc (kEq k k') (eqI n z) false | _ => false
noncomputable def isS (l : List UInt8) (v : AV) : Bool := match v with | .str s => bytesEq l s | _ => false
theorem isJ_eq {i : Nat} {v : AV} (h : isJ i v = true) : v = .junk i := by
  cases v <;> simp only [isJ, reduceCtorEq, Bool.false_eq_true] at h
  rw [beq_t.1 h]
theorem isI_eq {k : IntKind} {n : Int} {v : AV} (h : isI k n v = true) : v = .int k n := by
  cases v <;> simp only [isI, reduceCtorEq, Bool.false_eq_true] at h
  rw [bc_and, eqI_dec, decide_eq_true_eq] at h
  rw [kEq_eq h.1, h.2]
theorem bytesEq_inj : ∀ {x y : List UInt8}, bytesEq x y = true → x = y
  | [], [], _ => rfl
  | [], _ :: _, h => by cases h
  | _ :: _, [], h => by cases h
  | a :: x, b :: y, h => by
    have h' : (bif Nat.beq a.toNat b.toNat then bytesEq x y else false) = true := h
    cases hb : Nat.beq a.toNat b.toNat with
    | false => rw [hb] at h'; cases h'
    | true =>
      rw [hb] at h'
      rw [UInt8.toNat_inj.1 (beq_t.1 hb), bytesEq_inj h']
theorem isS_eq {l : List UInt8} {v : AV} (h : isS l v = true) : v = .str l := by
  cases v <;> simp only [isS, reduceCtorEq, Bool.false_eq_true] at h
  rw [bytesEq_inj h]
end Go.Ab
