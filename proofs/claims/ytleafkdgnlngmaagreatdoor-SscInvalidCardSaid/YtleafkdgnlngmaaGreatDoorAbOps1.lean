/- Each operation of the evaluator stands for the model's: the plain ones. -/
import Derived.Test.YtleafkdgnlngmaaGreatDoorAbSim
import Derived.LaidEql
namespace Go.Ab
open Go
variable [Th]

/-- what the evaluator says of an operation holds of the model's -/
def OpOk (P : Program) (η : Operand → Value) (o : Oper) (β : Bet) (h : H) (w : World) : R → Prop
  | .val v h' => ∃ β' w', Sim β' h' w' ∧ Kept β h w β' h' w' ∧ ((∃ cv, (execOp η o).run P w = .ok (.value cv) w' ∧ VR β' v cv) ∨ ((execOp η o).run P w = .ok .skip w' ∧ v = undef))
  | .call f args h' => h' = h ∧ ∃ cargs, (execOp η o).run P w = .ok (.enter f cargs) w ∧ VRs β args cargs.toList

omit [Th] in
theorem orE_eq {α : Type} {a b : Option α} {v : α} : orE a b = some v ↔ a = some v ∨ (a = none ∧ b = some v) := by
  cases a <;> simp [orE]

/-- what is known from outside holds of the model -/
structure XOk (P : Program) (X : Ext) : Prop where
  fn : ∀ f fn, P.funcs[f]? = some fn → fn.body = none → ∀ args h v h', X.fn f args h = some (v, h') →
    ∀ β w (cargs : Array Value), Sim β h w → VRs β args cargs.toList → ∃ cv β' w', (callFunc f cargs).run P w = .ok (.value cv) w' ∧ VR β' v cv ∧ Sim β' h' w' ∧ Kept β h w β' h' w'
  bin : ∀ op t a b v, X.bin op t a b = some v → ∀ β va vb, VR β a va → VR β b vb →
    ∃ cv, VR β v cv ∧ ∀ (o : Oper) (η : Operand → Value) x y t' w, o.op = .binOp op t x y t' → η x = va → η y = vb → (execOp η o).run P w = .ok (.value cv) w
  un : ∀ op t a v, X.un op t a = some v → ∀ β va, VR β a va →
    ∃ cv, VR β v cv ∧ ∀ (o : Oper) (η : Operand → Value) x w, o.op = .unOp op t x → η x = va → (execOp η o).run P w = .ok (.value cv) w
  cv : ∀ s d s' d' a v, P.underlying s' = some s → P.underlying d' = some d → X.cv s d a = some v → ∀ β va, VR β a va →
    ∃ cv, VR β v cv ∧ ∀ (o : Oper) (η : Operand → Value) x w, o.op = .convert s' d' x → η x = va → (execOp η o).run P w = .ok (.value cv) w
  bu : ∀ b ts args v, X.bu b ts args = some v → ∀ β (cargs : Array Value), VRs β args cargs.toList →
    ∃ cv, VR β v cv ∧ ∀ (o : Oper) (η : Operand → Value) c w, o.op = .call c → c.callee = .builtin b → c.argTypes = ts → c.args.map η = cargs → (execOp η o).run P w = .ok (.value cv) w

structure POk (P : Program) : Prop where
  names : ∀ (f : Nat) fn, P.funcs[f]? = some fn → fn.body.isSome = true → (fn.name == "runtime.NumGoroutine") = false
  mixed : P.follows .mixedOrders = true

variable {P : Program} {X : Ext} {η : Operand → Value} {ε : Env} {o : Oper} {β : Bet} {h : H} {w : World} {r : R}

theorem OpOk.plain (s : Sim β h w) {v : AV} {cv : Value} (hr : (execOp η o).run P w = .ok (.value cv) w) (hv : VR β v cv) : OpOk P η o β h w (.val v h) :=
  ⟨β, w, s, Kept.refl .., .inl ⟨cv, hr, hv⟩⟩

theorem VR.int {k : IntKind} {n : Int} {v : Value} (h : VR β (.int k n) v) : v = .int k n := h
theorem VR.bool {b : Bool} {v : Value} (h : VR β (.bool b) v) : v = .bool b := h
theorem VR.str {s : List UInt8} {v : Value} (h : VR β (.str s) v) : v = .string ⟨⟨s⟩⟩ := h
theorem VR.ptr {b p : Nat} {v : Value} (h : VR β (.ptr b p) v) : ∃ cb base sz, β b = some (cb, base, sz) ∧ v = .pointer (some ⟨cb, base + p, none⟩) := h
theorem VR.tup {l : List AV} {v : Value} (h : VR β (.tup l) v) : ∃ l', v = .tuple l' ∧ VRs β l l'.toList := h
theorem VR.agg {l : List AV} {v : Value} (h : VR β (.agg l) v) : ∃ l', v = .agg l' ∧ VRs β l l'.toList := h

omit [Th] in
theorem asB_eq {v : AV} {b : Bool} (h : asB v = some b) : v = .bool b := by
  cases v <;> simp [asB] at h; subst h; rfl
omit [Th] in
theorem asPtr_eq {v : AV} {p : Nat × Nat} (h : asPtr v = some p) : v = .ptr p.1 p.2 := by
  cases v <;> simp [asPtr] at h; subst h; rfl
omit [Th] in
theorem asTup_eq {v : AV} {l : List AV} (h : asTup v = some l) : v = .tup l := by
  cases v <;> simp [asTup] at h; subst h; rfl
omit [Th] in
theorem asAgg_eq {v : AV} {l : List AV} (h : asAgg v = some l) : v = .agg l := by
  cases v <;> simp [asAgg] at h; subst h; rfl
omit [Th] in
theorem asStr_eq {v : AV} {l : List UInt8} (h : asStr v = some l) : v = .str l := by
  cases v <;> simp [asStr] at h; subst h; rfl
omit [Th] in
theorem asMapV_eq {v : AV} {b : Nat} (h : asMapV v = some b) : v = .map b := by
  cases v <;> simp [asMapV] at h; subst h; rfl
omit [Th] in
theorem asInt_eq {v : AV} {n : Int} (h : asInt v = some n) : ∃ k, v = .int k n := by
  cases v <;> simp [asInt] at h; subst h; exact ⟨_, rfl⟩
omit [Th] in
theorem asIdx_eq {v : AV} {n : Nat} (h : asIdx v = some n) : ∃ k, v = .int k (Int.ofNat n) := by
  unfold asIdx at h
  rw [ob_eq] at h
  obtain ⟨a, h1, h2⟩ := h
  obtain ⟨k, rfl⟩ := asInt_eq h1
  cases a with
  | ofNat m => simp at h2; subst h2; exact ⟨k, rfl⟩
  | negSucc m => cases h2
omit [Th] in
theorem keyOf_eq {v : AV} {q : IntKind × Int} (h : keyOf v = some q) : v = .int q.1 q.2 := by
  cases v <;> simp [keyOf] at h; subst h; rfl
omit [Th] in
theorem fnOf_eq {v : AV} {x : FuncId × List AV × List AV} (h : fnOf v = some x) : v = .fn x.1 x.2.1 x.2.2 := by
  cases v <;> simp [fnOf] at h; subst h; rfl
omit [Th] in
theorem ifcOf_eq {v : AV} {x : TypeId × AV} (h : ifcOf v = some x) : v = .ifc x.1 x.2 := by
  cases v <;> simp [ifcOf] at h; subst h; rfl
omit [Th] in
theorem kEq_t {a b : IntKind} : kEq a b = true ↔ a = b := by
  cases a <;> cases b <;> decide

theorem op_move {x : Operand} (ho : o.op = .move x ∨ o.op = .assign x) (s : Sim β h w) (hε : ∀ x v, ε x = some v → VR β v (η x)) (he : e_move x P X ε h = some r) : OpOk P η o β h w r := by
  simp only [e_move, ob_eq, retV, Option.some.injEq] at he
  obtain ⟨v, hx, rfl⟩ := he
  refine .plain s (cv := η x) ?_ (hε _ _ hx)
  rcases ho with ho | ho <;> simp [execOp, ho]

theorem op_pick {c a b : Operand} (ho : o.op = .pick c a b) (s : Sim β h w) (hε : ∀ x v, ε x = some v → VR β v (η x)) (he : e_pick c a b P X ε h = some r) : OpOk P η o β h w r := by
  simp only [e_pick, ob_eq, retV, Option.some.injEq] at he
  obtain ⟨c', hc, t, ht, v, hv, rfl⟩ := he
  have hc' := asB_eq ht
  subst hc'
  have hb := (hε _ _ hc).bool
  refine .plain s (cv := if t then η a else η b) ?_ ?_
  · simp [execOp, ho, hb, asBool]
  · cases t
    · exact hε _ _ hv
    · exact hε _ _ hv

theorem op_extract {x : Operand} {i : Nat} (ho : o.op = .extract x i) (s : Sim β h w) (hε : ∀ x v, ε x = some v → VR β v (η x)) (he : e_extract x i P X ε h = some r) : OpOk P η o β h w r := by
  simp only [e_extract, ob_eq, retV, Option.some.injEq, nth_eq] at he
  obtain ⟨v, hx, l, hl, u, hu, rfl⟩ := he
  have := asTup_eq hl
  subst this
  obtain ⟨l', e1, e2⟩ := (hε _ _ hx).tup
  obtain ⟨cv, h1, h2⟩ := e2.at hu
  refine .plain s (cv := cv) ?_ h2
  rw [Array.getElem?_toList] at h1
  simp [execOp, ho, e1, Instr.extract, h1]

theorem op_nilCheck {x : Operand} (ho : o.op = .nilCheck x) (s : Sim β h w) (hε : ∀ x v, ε x = some v → VR β v (η x)) (he : e_nilCheck x P X ε h = some r) : OpOk P η o β h w r := by
  simp only [e_nilCheck, ob_eq, retV, Option.some.injEq] at he
  obtain ⟨v, hx, u, hu, rfl⟩ := he
  have hv := hε _ _ hx
  have e : u = v := by cases v <;> simp [nilOk] at hu <;> exact hu.symm
  subst e
  refine .plain s (cv := η x) ?_ hv
  cases u <;> simp [nilOk] at hu
  · obtain ⟨cb, base, sz, _, e⟩ := hv.ptr
    simp [execOp, ho, e]
  · simp only [VR] at hv; obtain ⟨a', b', e, _⟩ := hv
    simp [execOp, ho, e]
  · simp only [VR] at hv; obtain ⟨a', e, _⟩ := hv
    simp [execOp, ho, e]

theorem op_makeInterface {t : TypeId} {x : Operand} (ho : o.op = .makeInterface t x) (s : Sim β h w) (hε : ∀ x v, ε x = some v → VR β v (η x)) (he : e_makeInterface t x P X ε h = some r) : OpOk P η o β h w r := by
  simp only [e_makeInterface, ob_eq, retV, Option.some.injEq, bc_some] at he
  obtain ⟨d, hd, hi, v, hx, rfl⟩ := he
  refine .plain s (cv := .iface t (η x)) ?_ (by simp only [VR]; exact ⟨_, rfl, hε _ _ hx⟩)
  simp only [execOp, ho, Instr.makeInterface, Sem.run_bind, run_underlying hd, Result.andThen_ok]
  cases d <;> simp [isIfcD] at hi <;> rfl

theorem evs_VRs (hε : ∀ x v, ε x = some v → VR β v (η x)) : ∀ {l : List Operand} {vs : List AV}, evs ε l = some vs → VRs β vs (l.map η)
  | [], vs, hh => by simp only [evs, Option.some.injEq] at hh; subst hh; rfl
  | x :: l, vs, hh => by
    have h' : ob (ε x) (fun v => ob (evs ε l) fun r => some (v :: r)) = some vs := hh
    simp only [ob_eq, Option.some.injEq] at h'
    obtain ⟨v, hv, r, hr, rfl⟩ := h'
    simp only [VRs, List.map_cons]
    exact ⟨_, _, rfl, hε _ _ hv, evs_VRs hε hr⟩

theorem op_makeFunc {fn : Fn} {a b : Array Operand} (ho : o.op = .makeFunc fn a b) (s : Sim β h w) (hε : ∀ x v, ε x = some v → VR β v (η x)) (he : e_makeFunc fn a b P X ε h = some r) : OpOk P η o β h w r := by
  cases fn with
  | func f =>
    simp only [e_makeFunc, ob_eq, retV, Option.some.injEq] at he
    obtain ⟨x, hx, y, hy, rfl⟩ := he
    refine .plain s (cv := .func (.func f) (a.map η) (b.map η)) (by simp [execOp, ho, Instr.makeFunc]) ?_
    simp only [VR]
    exact ⟨_, _, rfl, by simpa using evs_VRs hε hx, by simpa using evs_VRs hε hy⟩
  | _ => simp [e_makeFunc] at he

/-! types -/
omit [Th] in
theorem tsize_eq {t : TypeId} {n : Nat} (hh : tsize P t = some n) : ∃ i, P.info? t = some i ∧ i.size = n := by
  unfold tsize at hh; split at hh
  · rename_i i hi; cases hh; exact ⟨i, hi, rfl⟩
  · cases hh
omit [Th] in
theorem tbytes_eq {t : TypeId} {n : Nat} (hh : tbytes P t = some n) : ∃ i, P.info? t = some i ∧ i.bytes = n := by
  unfold tbytes at hh; split at hh
  · rename_i i hi; cases hh; exact ⟨i, hi, rfl⟩
  · cases hh
omit [Th] in
theorem run_typeInfo' {t : TypeId} {i : TypeInfo} (hh : P.info? t = some i) (w : World) : (typeInfo t).run P w = .ok i w := by simp [typeInfo, hh]
omit [Th] in
theorem run_sizeOf' {t : TypeId} {n : Nat} (hh : tsize P t = some n) (w : World) : (sizeOf t).run P w = .ok n w := by
  obtain ⟨i, h1, rfl⟩ := tsize_eq hh
  simp [sizeOf, run_typeInfo' h1]
omit [Th] in
theorem tagg_eq {t : TypeId} {a : Bool} (hh : tagg P t = some a) : ∃ d, P.underlying t = some d ∧ isAggD d = a := by
  unfold tagg at hh; split at hh
  · rename_i i hi; cases hh; exact ⟨i, hi, rfl⟩
  · cases hh
omit [Th] in
theorem run_isAgg' {t : TypeId} {a : Bool} (hh : tagg P t = some a) (w : World) : (isAgg t).run P w = .ok a w := by
  obtain ⟨d, h1, rfl⟩ := tagg_eq hh
  simp only [isAgg, Sem.run_bind, run_underlying h1, Result.andThen_ok]
  cases d <;> rfl
omit [Th] in
theorem tzero_eq {t : TypeId} {l : List AV} (hh : tzero P t = some l) : ∃ i z, P.info? t = some i ∧ i.zero = some z ∧ ofVals z.cells.toList = some l := by
  unfold tzero at hh; split at hh
  · rename_i i hi; split at hh
    · rename_i z hz; exact ⟨i, z, hi, hz, hh⟩
    · cases hh
  · cases hh
omit [Th] in
theorem run_zeroValue' {t : TypeId} {i : TypeInfo} {z : Value} (h1 : P.info? t = some i) (h2 : i.zero = some z) (w : World) : (zeroValue t).run P w = .ok z w := by
  simp [zeroValue, run_typeInfo' h1, h2]
omit [Th] in
theorem tzeroV_eq {t : TypeId} {v : AV} (hh : tzeroV P t = some v) : ∃ i z, P.info? t = some i ∧ i.zero = some z ∧ ofVal z = some v := by
  unfold tzeroV at hh; split at hh
  · rename_i i hi; split at hh
    · rename_i z hz; exact ⟨i, z, hi, hz, hh⟩
    · cases hh
  · cases hh
omit [Th] in
theorem telem_eq {t e : TypeId} (hh : telem P t = some e) : P.underlying t = some (.slice e) := by
  unfold telem at hh; split at hh
  · rename_i d hd; cases d <;> simp [telemD] at hh; subst hh; exact hd
  · cases hh
omit [Th] in
theorem elemInfo_eq {e : TypeId} {q : Nat × Nat × List AV} (hh : elemInfo P e = some q) : ∃ i z, P.info? e = some i ∧ i.size = q.1 ∧ i.bytes = q.2.1 ∧ i.zero = some z ∧ ofVals z.cells.toList = some q.2.2 ∧ q.1 ≠ 0 ∧ q.2.2.length = q.1 := by
  simp only [elemInfo, ob_eq, bc_some, bc_none, Option.some.injEq] at hh
  obtain ⟨s, hs, b, hb, z, hz, h1, h2, rfl⟩ := hh
  obtain ⟨i, z', g1, g2, g3⟩ := tzero_eq hz
  obtain ⟨i1, g4, g5⟩ := tsize_eq hs
  obtain ⟨i2, g6, g7⟩ := tbytes_eq hb
  rw [g1] at g4 g6
  cases g4; cases g6
  exact ⟨i, z', g1, g5, g7, g2, g3, beq_f.1 h1, beq_t.1 h2⟩

theorem op_alloc {e : TypeId} (ho : o.op = .alloc e) (s : Sim β h w) (he : e_alloc e P X ε h = some r) : OpOk P η o β h w r := by
  simp only [e_alloc, ob_eq, Option.some.injEq] at he
  obtain ⟨z, hz, rfl⟩ := he
  obtain ⟨i, zv, h1, h2, h3⟩ := tzero_eq hz
  have hv := ofVals_VR β _ _ h3
  obtain ⟨m1, m2⟩ := s.make (.cells z true) (.cells zv.cells e) 0 zv.cells.size (fun β' w' hb hn hw =>
    ⟨w.heap.size, 0, zv.cells.size, zv.cells, e, (0, 0), hn, hw, rfl, by simp, by simp, by have := hv.len; simp at this; omega, fun j v hj => by
      obtain ⟨u, g1, g2⟩ := (VRs.mono hb _ _ hv).at hj
      rw [Array.getElem?_toList] at g1
      exact ⟨u, by simpa using g1, g2⟩⟩)
  refine ⟨_, _, m1, m2, .inl ⟨.pointer (some ⟨w.heap.size, 0, none⟩), ?_, ?_⟩⟩
  · simp [execOp, ho, Instr.alloc, run_zeroValue' h1 h2, newVar, newRow]
  · simp only [VR]; exact ⟨_, _, _, Bet.put_same .., rfl⟩

theorem op_box {t : TypeId} {x : Operand} (ho : o.op = .box t x) (s : Sim β h w) (hε : ∀ x v, ε x = some v → VR β v (η x)) (he : e_box t x P X ε h = some r) : OpOk P η o β h w r := by
  simp only [e_box, ob_eq, Option.some.injEq] at he
  obtain ⟨v, hx, rfl⟩ := he
  have hv := (hε _ _ hx).cells'
  obtain ⟨m1, m2⟩ := s.make (.cells v.cells true) (.cells (η x).cells t) 0 (η x).cells.size (fun β' w' hb hn hw =>
    ⟨w.heap.size, 0, (η x).cells.size, (η x).cells, t, (0, 0), hn, hw, rfl, by simp, by simp, by have := hv.len; simp at this; omega, fun j v hj => by
      obtain ⟨u, g1, g2⟩ := (VRs.mono hb _ _ hv).at hj
      rw [Array.getElem?_toList] at g1
      exact ⟨u, by simpa using g1, g2⟩⟩)
  refine ⟨_, _, m1, m2, .inl ⟨.pointer (some ⟨w.heap.size, 0, none⟩), ?_, ?_⟩⟩
  · simp [execOp, ho, Instr.box, newVar, newRow]
  · simp only [VR]; exact ⟨_, _, _, Bet.put_same .., rfl⟩

theorem op_makeMap {t : TypeId} {q : Option Operand} (ho : o.op = .makeMap t q) (s : Sim β h w) (he : e_makeMap t q P X ε h = some r) : OpOk P η o β h w r := by
  simp only [e_makeMap, bc_none, Option.some.injEq] at he
  obtain ⟨hq, rfl⟩ := he
  cases q with
  | some _ => cases hq
  | none =>
    obtain ⟨m1, m2⟩ := s.make (.map []) (.map #[] 0) 0 0 (fun β' w' hb hn hw => ⟨w.heap.size, 0, 0, #[], 0, hn, hw, rfl⟩)
    refine ⟨_, _, m1, m2, .inl ⟨.map (some w.heap.size), ?_, ?_⟩⟩
    · simp [execOp, ho, Instr.makeMap]
    · simp only [VR]; exact ⟨_, _, _, Bet.put_same .., rfl⟩

theorem op_range {t : TypeId} {x : Operand} (ho : o.op = .range t x) (s : Sim β h w) (hε : ∀ x v, ε x = some v → VR β v (η x)) (he : e_range t x P X ε h = some r) : OpOk P η o β h w r := by
  simp only [e_range, ob_eq] at he
  obtain ⟨d, hd, he⟩ := he
  cases d <;> simp only [reduceCtorEq, ob_eq, Option.some.injEq] at he
  obtain ⟨v, hx, q, hq, rfl⟩ := he
  have := asStr_eq hq
  subst this
  have hv := (hε _ _ hx).str
  obtain ⟨m1, m2⟩ := s.make (.iter q 0) (.stringIter ⟨⟨q⟩⟩ 0) 0 0 (fun β' w' hb hn hw => ⟨w.heap.size, 0, hn, hw⟩)
  refine ⟨_, _, m1, m2, .inl ⟨.pointer (some ⟨w.heap.size, 0, none⟩), ?_, ?_⟩⟩
  · simp [execOp, ho, Instr.range, run_underlying hd, hv]
  · simp only [VR]; exact ⟨_, _, _, Bet.put_same .., rfl⟩

end Go.Ab
