/- Each operation of the evaluator stands for the model's: delete, append; calls; all operations. -/
import Derived.Test.YtleafkdgnlngmaaGreatDoorAbOps8
set_option linter.unusedVariables false
set_option linter.unusedSimpArgs false
namespace Go.Ab
open Go
variable [Th]
variable {P : Program} {X : Ext} {η : Operand → Value} {ε : Env} {o : Oper} {β : Bet} {h : H} {w : World} {r : R}

theorem delE_ok {k : IntKind} {n : Int} (kk : IntKind) : ∀ {es es' : List (AV × AV)} {ces : List MapEntry} (i : Nat), EntR β es ces → delE k n es = some es' →
    (Instr.findNow (.int kk) (.int k n) ces i = some none ∧ es' = es) ∨
    (∃ j val, Instr.findNow (.int kk) (.int k n) ces i = some (some (i + j, val)) ∧ j < ces.length ∧ EntR β es' (ces.eraseIdx j))
  | [], es', ces, i, hE, hf => by
    simp only [delE, Option.some.injEq] at hf
    subst hf
    simp only [EntR] at hE
    subst hE
    exact .inl ⟨rfl, rfl⟩
  | p :: es, es', ces, i, hE, hf => by
    obtain ⟨e, ces', rfl, h1, h2, h3⟩ := hE
    have hf' : ob (sameKey k n p.1) (fun r => bc r (some es) (ob (delE k n es) fun r => some (p :: r))) = some es' := hf
    rw [ob_eq] at hf'
    obtain ⟨b, hb, hf'⟩ := hf'
    have hk := sameKey_ok hb h1 kk
    cases b with
    | true =>
      simp only [bc_true, Option.some.injEq] at hf'
      subst hf'
      exact .inr ⟨0, e.val, by simp [Instr.findNow, hk], by simp, h3⟩
    | false =>
      simp only [bc_false, ob_eq, Option.some.injEq] at hf'
      obtain ⟨r, hr, rfl⟩ := hf'
      rcases delE_ok kk (i + 1) h3 hr with ⟨g1, rfl⟩ | ⟨j, val, g1, g2, g3⟩
      · exact .inl ⟨by simp [Instr.findNow, hk, g1], rfl⟩
      · exact .inr ⟨j + 1, val, by simp [Instr.findNow, hk, g1]; omega, by simp; omega, ⟨e, _, rfl, h1, h2, g3⟩⟩

theorem b_delete {ts : Array TypeId} {ty : TypeId} {args : List AV} {vs : Array Value} (s : Sim β h w) (hv : VRs β args vs.toList) (he : x_delete P h ts args = some r) : SemOk P (Builtin.delete_ ts ty vs) β h w r := by
  simp only [x_delete, t0, ob_eq, nth_eq, Array.getElem?_toList] at he
  obtain ⟨t, htt, z, hz, he⟩ := he
  obtain ⟨kt, e, kk, ht, hkt, hze⟩ := mapElem_eq hz
  obtain ⟨m, k, ex1, he1⟩ := two2_eq he
  subst ex1
  replace he := he1
  clear he1
  obtain ⟨u, v, ev1, hu, hv1⟩ := VRs2 hv
  subst ev1
  simp only [ob_eq, retV, Option.some.injEq] at he
  obtain ⟨b, hmb, q, hq, x, hb, es, hes, es', hes', rfl⟩ := he
  have := keyOf_eq hq
  subst this
  have := asMapV_eq hmb
  subst this
  have e1 := hv1.int
  subst e1
  simp only [VR] at hu
  obtain ⟨cb, base, sz, hβ, e2⟩ := hu
  subst e2
  obtain ⟨ces, clock, g3, g4⟩ := s.mapObj hb hes hβ
  have hck := run_checkKey (P := P) (w := w) hkt ces.isEmpty 9999 (.int q.1 q.2)
  have hun : VR β (.tup []) (.tuple #[]) := by simp only [VR, VRs]; exact ⟨_, rfl, rfl⟩
  rcases delE_ok kk 0 g4 hes' with ⟨f1, rfl⟩ | ⟨j, val, f1, f2, f3⟩
  · have hfk : (Instr.findKey kt (.int q.1 q.2) ces.toList).run P w = .ok none w := by
      simp [Instr.findKey, run_underlying hkt, f1]
    obtain ⟨w', k1, k2, k3⟩ := s.setMap (P := P) (es' := es') (ces' := ces) (clock' := clock) hb hes hβ g3 g4
    refine ⟨_, w', k2, k3, .tuple #[], ?_, hun⟩
    simp only [Builtin.delete_, htt]
    simp only [List.getElem?_toArray, List.getElem?_cons_zero, List.getElem?_cons_succ, Sem.run_bind, run_underlying ht, Result.andThen_ok, run_getObj_map' g3]
    rw [hck]
    simp only [Result.andThen_ok, hfk, Sem.run_bind, k1, Sem.run_pure]
  · have hfk : (Instr.findKey kt (.int q.1 q.2) ces.toList).run P w = .ok (some (0 + j, val)) w := by
      simp [Instr.findKey, run_underlying hkt, f1]
    obtain ⟨w', k1, k2, k3⟩ := s.setMap (P := P) (es' := es') (ces' := ces.eraseIdxIfInBounds j) (clock' := clock) hb hes hβ g3 (by
      have : (ces.eraseIdxIfInBounds j).toList = ces.toList.eraseIdx j := by
        simp only [Array.length_toList] at f2
        rw [Array.eraseIdxIfInBounds, dif_pos f2]
        simp
      rw [this]; exact f3)
    refine ⟨_, w', k2, k3, .tuple #[], ?_, hun⟩
    simp only [Builtin.delete_, htt]
    simp only [List.getElem?_toArray, List.getElem?_cons_zero, List.getElem?_cons_succ, Sem.run_bind, run_underlying ht, Result.andThen_ok, run_getObj_map' g3]
    rw [hck]
    simp only [Result.andThen_ok, hfk, Nat.zero_add, Sem.run_bind, k1, Sem.run_pure]

/-! append -/
omit [Th] in
theorem allOne_eq : ∀ {l : List AV}, allOne l = true → ∀ v ∈ l, v.one = true
  | [], _ => by simp
  | a :: l, hh => by
    have h' : bc a.one (allOne l) false = true := hh
    have h2 : a.one = true ∧ allOne l = true := by
      cases ha : a.one with
      | true => rw [ha] at h'; exact ⟨rfl, h'⟩
      | false => rw [ha] at h'; cases h'
    intro v hv
    rcases List.mem_cons.1 hv with rfl | hv
    · exact h2.1
    · exact allOne_eq h2.2 v hv

theorem newsOf_ok (s : Sim β h w) {es : Nat} {z : List AV} {zs : Array Value} (hz : VRs β z zs.toList) (hzl : z.length = es) (hes : es ≠ 0) {d : TypeDesc} {x : AV} {q : Nat × List AV} (hq : newsOf h es z d x = some q) {v : Value} (hv : VR β x v) :
    q.2.length = q.1 * es ∧
    ((isIntD d = true ∧ (∃ k, v = .int k (q.1 : Int)) ∧ VRs β q.2 (Builtin.zeroCells zs q.1).toList) ∨
     (isIntD d = false ∧ (∀ w', w'.heap = w.heap → (Builtin.lenOf v).run P w' = .ok q.1 w') ∧ ∃ cs : Array Value, VRs β q.2 cs.toList ∧ ∀ w', w'.heap = w.heap → (Builtin.firstCells es q.1 v).run P w' = .ok cs w')) := by
  unfold newsOf at hq
  cases hd : isIntD d with
  | true =>
    rw [hd, bc_true] at hq
    simp only [ob_eq, Option.some.injEq] at hq
    obtain ⟨m, hm, rfl⟩ := hq
    obtain ⟨k, rfl⟩ := asIdx_eq hm
    have e := hv.int
    refine ⟨by rw [repl_len, hzl], .inl ⟨rfl, ⟨k, e⟩, zeroCells_eq hz (by omega) m⟩⟩
  | false =>
    rw [hd, bc_false] at hq
    simp only [ob_eq, Option.some.injEq] at hq
    obtain ⟨n, hn, l, hl, rfl⟩ := hq
    have hxn : x = .nils → n = 0 := by
      intro e; subst e; simp only [lenOf, Option.some.injEq] at hn; exact hn.symm
    obtain ⟨cs, k1, k2⟩ := firstCells_ok (P := P) s hl hv hes hxn (w' := w) rfl
    have hlen : l.length = n * es := by
      cases x <;> simp only [firstCells, reduceCtorEq, bc_none, ob_eq, Option.some.injEq] at hl
      · obtain ⟨h1, q', hq', rfl⟩ := hl
        have := beq_t.1 h1
        subst this
        rw [takeN_eq] at hq'
        split at hq'
        · simp only [Option.some.injEq] at hq'; subst hq'; rw [byteCells_eq]; simp; omega
        · cases hq'
      · subst hl; rw [hxn rfl]; simp
      · obtain ⟨_, hl⟩ := hl
        unfold Go.Ab.loadCells at hl
        simp only [ob_eq] at hl
        obtain ⟨_, _, _, _, hq'⟩ := hl
        exact (takeN_dropN hq').1
      · obtain ⟨h1, rfl⟩ := hl
        have := beq_t.1 h1
        subst this; simp
    refine ⟨hlen, .inr ⟨rfl, fun w' _ => (lenOf_ok hn hv).1, cs, k1, fun w' hw' => ?_⟩⟩
    obtain ⟨cs', k3, k4⟩ := firstCells_ok (P := P) s hl hv hes hxn (w' := w') hw'
    have : cs' = cs := by
      -- both are what the same cells hold
      cases x <;> simp only [firstCells, reduceCtorEq, bc_none, ob_eq, Option.some.injEq] at hl
      · have e := hv.str
        subst e
        simp only [Builtin.firstCells, Sem.run_pure, Result.ok.injEq, and_true] at k2 k4
        rw [← k2, ← k4]
      · have e : v = .slice none 0 0 := hv
        subst e
        simp only [Builtin.firstCells, Sem.run_pure, Result.ok.injEq, and_true] at k2 k4
        rw [← k2, ← k4]
      · rename_i b p len cap e ex
        obtain ⟨h1, hl⟩ := hl
        have := beq_t.1 h1
        subst this
        obtain ⟨cb, base, sz, cc, hβ, ev, _⟩ := hv.sl
        subst ev
        obtain ⟨us, g1, g2, _, g3⟩ := s.cellsAt hl hβ
        have hr : ∀ w'', w''.heap = w.heap → (Builtin.firstCells e n (.slice (some ⟨cb, base + p, none⟩) len cc)).run P w'' = .ok us.toArray w'' := by
          intro w'' hw''
          have hr := run_loadCells_list (P := P) w'' ⟨cb, base + p, none⟩ us (fun j u hj => by
            rw [Addr_add]
            have := g3 j u hj
            simp only [World.cell?, hw''] at this ⊢
            exact this)
          rw [g1] at hr
          exact hr
        have a1 := hr w rfl
        have a2 := hr w' hw'
        rw [k2] at a1
        rw [k4] at a2
        simp only [Result.ok.injEq, and_true] at a1 a2
        rw [a1, a2]
      · obtain ⟨h1, rfl⟩ := hl
        have := beq_t.1 h1
        subst this
        have e1 := k1
        have e2 := k3
        simp only [VRs] at e1 e2
        exact Array.ext' (e2.trans e1.symm)
    rw [this] at k4
    exact k4

theorem VRs.of_len {l : List AV} {cs : Array Value} (hh : VRs β l cs.toList) : cs.size = l.length := by have := hh.len; simp at this; omega

/-- what is appended, as the model sees it: zeros, or cells -/
def News (P : Program) (w : World) (zs : Array Value) (es : Nat) (d : TypeDesc) (v : Value) (n : Nat) (cs : Array Value) : Prop :=
  (isIntD d = true ∧ (∃ k, v = .int k (n : Int)) ∧ cs = Builtin.zeroCells zs n) ∨
  (isIntD d = false ∧ (∀ w', w'.heap = w.heap → (Builtin.lenOf v).run P w' = .ok n w') ∧ ∀ w', w'.heap = w.heap → (Builtin.firstCells es n v).run P w' = .ok cs w')

omit [Th] in
theorem zeroCells_zero (zs : Array Value) {n : Nat} (hn : n * zs.size = 0) : Builtin.zeroCells zs n = #[] := by
  simp [Builtin.zeroCells, hn, Array.range_zero']

omit [Th] in
theorem wrap_small {n : Nat} (hn : n ≤ 1099511627776) : IntKind.i64.wrap (n : Int) = n := by
  rw [wrap_eq]; simp only [sgnK, halfK, modK]
  have : ((n : Int)) % ((18446744073709551616 : Nat) : Int) = n := Int.emod_eq_of_lt (by omega) (by omega)
  rw [this, if_neg (by omega)]

section
variable {ts : Array TypeId} {ty t u e : TypeId} {inf : TypeInfo} {z : Value} {d : TypeDesc} {xv : Value} {n : Nat} {cs : Array Value}
  (ht0 : ts[0]? = some t) (ht1 : ts[1]? = some u) (hd : P.underlying t = some (.slice e)) (hu : P.underlying u = some d) (hi : P.info? e = some inf) (hz : inf.zero = some z) (hzs : z.cells.size = inf.size)
  (hn : n ≤ 1099511627776) (hnb : n * inf.bytes ≤ 1099511627776) (hN : News P w z.cells inf.size d xv n cs)
include ht0 ht1 hd hu hi hz hzs hn hnb hN

omit [Th] in
theorem run_append_room1 {base : Option Addr} {sLen sCap : Nat} (hroom : sLen + n ≤ sCap) :
    (Builtin.append_ ts ty #[.slice base sLen sCap, xv]).run P w =
      (match base with | some a => (Go.storeCells (a.add (sLen * inf.size)) cs.toList).run P w | none => .ok () w).andThen fun _ w' => .ok (.slice base (sLen + n) sCap) w' := by
  have hso : ∀ w', (sizeOf e).run P w' = .ok inf.size w' := fun w' => run_sizeOf' (by unfold tsize; rw [hi]) w'
  rcases hN with ⟨hb, ⟨k, rfl⟩, rfl⟩ | ⟨hb, h1, h2⟩
  · have hm : (d matches .int _) = true := by cases d <;> simp [isIntD] at hb <;> rfl
    cases d <;> simp [isIntD] at hb
    have c1 : ((n : Int) < 0) = False := by simp
    have c2 : (((n : Int) * (inf.bytes : Int) > 2 ^ 48) : Prop) = False := by
      simp only [eq_iff_iff, iff_false]
      have : ((n * inf.bytes : Nat) : Int) ≤ 1099511627776 := by omega
      rw [Int.natCast_mul] at this
      omega
    simp only [Builtin.append_, ht0, ht1, List.getElem?_toArray, List.getElem?_cons_zero, List.getElem?_cons_succ, Sem.run_bind, run_underlying hd, run_underlying hu, Result.andThen_ok, hso, Sem.run_pure, if_true, Go.asInt, asIntOf, wrap_small hn, c1, if_false, run_typeInfo' hi, c2, Int.toNat_natCast, hroom, Bool.not_true, Bool.false_eq_true]
    by_cases h0 : n * inf.size = 0
    · have hz0 := zeroCells_zero z.cells (n := n) (by rw [hzs]; exact h0)
      simp only [h0, if_true, Sem.run_pure, Result.andThen_ok, hz0]
      cases base <;> simp [Go.storeCells]
    · simp only [h0, if_false, Sem.run_bind, run_zeroValue' hi hz, Result.andThen_ok, Sem.run_pure]
      cases base <;> simp
  · have key : ∀ dd, P.underlying u = some dd → isIntD dd = false → (Builtin.append_ ts ty #[.slice base sLen sCap, xv]).run P w =
      (match base with | some a => (Go.storeCells (a.add (sLen * inf.size)) cs.toList).run P w | none => .ok () w).andThen fun _ w' => .ok (.slice base (sLen + n) sCap) w' := by
      intro dd hu hb
      cases dd <;> first
        | (simp [isIntD] at hb; done)
        | (simp only [Builtin.append_, ht0, ht1, List.getElem?_toArray, List.getElem?_cons_zero, List.getElem?_cons_succ, Sem.run_bind, run_underlying hd, run_underlying hu, Result.andThen_ok, hso, Sem.run_pure, Bool.false_eq_true, if_false, h1 w rfl, hroom, if_true, Bool.not_false, h2 w rfl]
           cases base <;> simp)
    exact key d hu hb

omit [Th] in
theorem run_append_grow {base : Option Addr} {sLen sCap : Nat} (hgrow : sCap < sLen + n) (hlen : sLen + n ≤ 1099511627776) (hlb : (sLen + n) * inf.bytes ≤ 1099511627776) {old : Array Value} (hold : (Builtin.firstCells inf.size sLen (.slice base sLen sCap)).run P w.drew = .ok old w.drew) :
    ∃ cap, sLen + n ≤ cap ∧ (Builtin.append_ ts ty #[.slice base sLen sCap, xv]).run P w = .ok (.slice (some ⟨w.heap.size, 0, none⟩) (sLen + n) cap) (w.drew.alloc (.cells (old ++ cs ++ Builtin.zeroCells z.cells (cap - (sLen + n))) e)) := by
  have hso : ∀ w', (sizeOf e).run P w' = .ok inf.size w' := fun w' => run_sizeOf' (by unfold tsize; rw [hi]) w'
  refine ⟨(Question.appendCap (sLen + n) sCap e).cut (w.tape w.drawn (.appendCap (sLen + n) sCap e)), by simp [Question.cut], ?_⟩
  have hngt : ¬ (sLen + n ≤ sCap) := by omega
  have hbig : Builtin.nextslicecap (sLen + n) sCap * inf.bytes ≤ 281474976710656 := growslice_fits hgrow (by omega)
  have g1 : ∀ (p : Prop), (((sLen + n : Nat) : Int) > IntKind.i64.max ∧ p) = False := by
    intro p; simp only [eq_iff_iff, iff_false]; rintro ⟨hh, _⟩; rw [IntKind.max_i64] at hh; omega
  have g2 : ((Builtin.nextslicecap (sLen + n) sCap * inf.bytes > 2 ^ 48) : Prop) = False := by simp only [eq_iff_iff, iff_false]; omega
  rcases hN with ⟨hb, ⟨k, rfl⟩, rfl⟩ | ⟨hb, h1, h2⟩
  · cases d <;> simp [isIntD] at hb
    have c1 : ((n : Int) < 0) = False := by simp
    have c2 : (((n : Int) * (inf.bytes : Int) > 2 ^ 48) : Prop) = False := by
      simp only [eq_iff_iff, iff_false]
      have : ((n * inf.bytes : Nat) : Int) ≤ 1099511627776 := by omega
      rw [Int.natCast_mul] at this
      omega
    simp only [Builtin.append_, ht0, ht1, List.getElem?_toArray, List.getElem?_cons_zero, List.getElem?_cons_succ, Sem.run_bind, run_underlying hd, run_underlying hu, Result.andThen_ok, hso, Sem.run_pure, if_true, Go.asInt, asIntOf, wrap_small hn, c1, if_false, run_typeInfo' hi, c2, Int.toNat_natCast, hngt, g1, g2, run_choose, Question.forced, Bool.false_eq_true, World.drew_eq, run_askRoom, hold, Bool.not_true, run_zeroValue' hi hz]
    by_cases h0 : n * inf.size = 0
    · have hz0 := zeroCells_zero z.cells (n := n) (by rw [hzs]; exact h0)
      simp only [h0, if_true, Sem.run_pure, Result.andThen_ok, hz0, run_zeroValue' hi hz, newRow, Sem.run_bind, run_newObj]
      first | (simp; done) | (simp; rfl)
    · simp only [h0, if_false, Sem.run_bind, run_zeroValue' hi hz, Result.andThen_ok, Sem.run_pure, newRow, run_newObj]
      first | (simp; done) | (simp; rfl)
  · have key : ∀ dd, P.underlying u = some dd → isIntD dd = false → (Builtin.append_ ts ty #[.slice base sLen sCap, xv]).run P w = .ok (.slice (some ⟨w.heap.size, 0, none⟩) (sLen + n) ((Question.appendCap (sLen + n) sCap e).cut (w.tape w.drawn (.appendCap (sLen + n) sCap e)))) (w.drew.alloc (.cells (old ++ cs ++ Builtin.zeroCells z.cells ((Question.appendCap (sLen + n) sCap e).cut (w.tape w.drawn (.appendCap (sLen + n) sCap e)) - (sLen + n))) e)) := by
      intro dd hu hb
      cases dd <;> first
        | (simp [isIntD] at hb; done)
        | (simp only [Builtin.append_, ht0, ht1, List.getElem?_toArray, List.getElem?_cons_zero, List.getElem?_cons_succ, Sem.run_bind, run_underlying hd, run_underlying hu, Result.andThen_ok, hso, Sem.run_pure, Bool.false_eq_true, if_false, h1 w rfl, hngt, g1, g2, run_typeInfo' hi, run_choose, Question.forced, World.drew_eq, run_askRoom, hold, Bool.not_false, if_true, h2 w.drew rfl, run_zeroValue' hi hz, newRow, run_newObj]
           first | (simp; done) | (simp; rfl))
    exact key d hu hb

end

theorem b_append {ts : Array TypeId} {ty : TypeId} {args : List AV} {vs : Array Value} (s : Sim β h w) (hv : VRs β args vs.toList) (he : x_append P h ts args = some r) : SemOk P (Builtin.append_ ts ty vs) β h w r := by
  simp only [x_append, ob_eq, nth_eq, Array.getElem?_toList] at he
  obtain ⟨t, ht0, u, ht1, he⟩ := he
  obtain ⟨sa, x, ex1, he1⟩ := two2_eq he
  subst ex1
  replace he := he1
  clear he1
  obtain ⟨sv, xv, ev1, hs, hx⟩ := VRs2 hv
  subst ev1
  simp only [appendA, ob_eq, bc_none] at he
  obtain ⟨e, hte, i, hi, d, hu, q, hq, len, hl, hle, hone, he⟩ := he
  have hd := telem_eq hte
  obtain ⟨inf, z, g1, g2, g3, g4, g5, g6, g7⟩ := elemInfo_eq hi
  have hz := ofVals_VR β _ _ g5
  obtain ⟨hql, hnews⟩ := newsOf_ok (P := P) s hz g7 g6 hq hx
  have hle' : (len + q.1) * (i.2.1 + 1) ≤ 1099511627776 := ble_t.1 hle
  have hb1 : (len + q.1) * i.2.1 ≤ 1099511627776 := Nat.le_trans (Nat.mul_le_mul_left _ (Nat.le_succ _)) hle'
  have hb2 : len + q.1 ≤ 1099511627776 := Nat.le_trans (Nat.le_mul_of_pos_right _ (Nat.succ_pos _)) hle'
  have hnb : q.1 * i.2.1 ≤ 1099511627776 := Nat.le_trans (Nat.mul_le_mul_right _ (Nat.le_add_left _ _)) hb1
  have hzs : z.cells.size = inf.size := by have := hz.len; simp at this; omega
  have hone' := allOne_eq hone
  obtain ⟨cs, hcs, hN⟩ : ∃ cs : Array Value, VRs β q.2 cs.toList ∧ News P w z.cells inf.size d xv q.1 cs := by
    rcases hnews with ⟨a1, a2, a3⟩ | ⟨a1, a2, cs, a3, a4⟩
    · exact ⟨_, a3, .inl ⟨a1, a2, rfl⟩⟩
    · exact ⟨cs, a3, .inr ⟨a1, a2, by rw [g2]; exact a4⟩⟩
  have hcl : cs.size = q.1 * i.1 := by rw [VRs.of_len hcs, hql]
  have room := @run_append_room1 P w ts ty t u e inf z d xv q.1 cs ht0 ht1 hd hu g1 g4 hzs (by omega) (by rw [g3]; exact hnb) hN
  have grow := @run_append_grow P w ts ty t u e inf z d xv q.1 cs ht0 ht1 hd hu g1 g4 hzs (by omega) (by rw [g3]; exact hnb) hN
  rw [g2, g3] at grow
  rw [g2] at room
  -- a new block
  have mk : ∀ {h2 : H} {old : List AV} {old' : Array Value} {sLen cap : Nat}, Sim β h2 w → Kept β h w β h2 w → VRs β old old'.toList → old.length = sLen * i.1 → sLen + q.1 ≤ cap →
      ∀ {S : Sem Value}, S.run P w = .ok (.slice (some ⟨w.heap.size, 0, none⟩) (sLen + q.1) cap) (w.drew.alloc (.cells (old' ++ cs ++ Builtin.zeroCells z.cells (cap - (sLen + q.1))) e)) →
      ∀ (pl : Bool), SemOk P S β h w (.val (.sl h2.next 0 (sLen + q.1) (sLen + q.1) i.1 false) (h2.new (.cells (old ++ q.2) pl))) := by
    intro h2 old old' sLen cap s2 k2 hold holen hcap S hrun pl
    have hsz : (old' ++ cs).size = (sLen + q.1) * i.1 := by
      rw [Array.size_append, VRs.of_len hold, holen, hcl, Nat.add_mul]
    have hzc : (Builtin.zeroCells z.cells (cap - (sLen + q.1))).size = (cap - (sLen + q.1)) * i.1 := by
      simp [Builtin.zeroCells, hzs, g2]
    obtain ⟨β', w', e1, m1, m2, m3⟩ := newCells_ok (ex := false) (rest := Builtin.zeroCells z.cells (cap - (sLen + q.1))) (e := e) (es := i.1) (cs := old ++ q.2) (ccs := old' ++ cs) s2.drew (by rw [Array.toList_append]; exact hold.app hcs) (Nat.le_refl (sLen + q.1)) hcap (fun e => by cases e) (by
      rw [hsz, hzc, ← Nat.add_mul]; exact Nat.mul_le_mul_right _ (by omega)) pl
    subst e1
    exact ⟨β', _, m1, (k2.trans (Kept.drew β h2 w)).trans m2, _, hrun, m3⟩
  cases sa <;> simp only [appTo, reduceCtorEq] at he
  · -- nil
    simp only [lenOf, Option.some.injEq] at hl
    subst hl
    have ev : sv = .slice none 0 0 := hs
    subst ev
    by_cases h0 : q.1 = 0
    · simp only [a_nils, beq_t.2 h0, bc_true, Option.some.injEq] at he
      subst he
      refine .plain s (cv := .slice none 0 0) ?_ rfl
      rw [room (base := none) (sLen := 0) (sCap := 0) (by omega), h0]; rfl
    · simp only [a_nils, beq_f.2 h0, bc_false, newSl, Option.some.injEq] at he
      subst he
      obtain ⟨cap, c1, c2⟩ := grow (base := none) (sLen := 0) (sCap := 0) (by omega) (by omega) (by rw [Nat.zero_add]; exact hnb) (old := #[]) rfl
      have := mk (old := []) (old' := #[]) (sLen := 0) (cap := cap) s (Kept.refl ..) rfl (by simp) c1 c2 true
      simpa using this
  · -- a slice
    rename_i b p ln cap es ex
    simp only [lenOf, Option.some.injEq] at hl
    subst hl
    simp only [a_sl, bc_none] at he
    obtain ⟨hes, he⟩ := he
    have hes' := beq_t.1 hes
    subst hes'
    obtain ⟨cb, base, sz, cc, hβ, ev, k1, k2, k3, k4⟩ := hs.sl
    subst ev
    by_cases hc : ln + q.1 ≤ cap
    · have hc' : Nat.ble (Nat.add ln q.1) cap = true := ble_t.2 hc
      rw [hc', bc_true] at he
      simp only [ob_eq, Option.some.injEq] at he
      obtain ⟨h', hst, rfl⟩ := he
      obtain ⟨m1, m2, m3⟩ := storeCells_ok (P := P) s hst hcs hβ
      refine ⟨β, _, m2, m3, .slice (some ⟨cb, base + p, none⟩) (ln + q.1) cc, ?_, ?_⟩
      · rw [room (base := some ⟨cb, base + p, none⟩) (sLen := ln) (sCap := cc) (by omega)]
        simp only [Addr_add]
        have e3 : base + (Nat.add p (Nat.mul ln i.1)) = base + p + ln * i.1 := by show base + (p + ln * i.1) = _; omega
        rw [e3] at m1
        rw [m1, e3]; rfl
      · simp only [VR]
        exact ⟨cb, base, sz, cc, hβ, rfl, hc, k2, k3, k4⟩
    · have hc' : Nat.ble (Nat.add ln q.1) cap = false := ble_f.2 (by show cap < ln + q.1; omega)
      rw [hc', bc_false] at he
      simp only [ob_eq, Option.some.injEq] at he
      obtain ⟨old, hold, rfl⟩ := he
      obtain ⟨us, u1, u2, u3, u4⟩ := s.cellsAt hold hβ
      have holen : old.length = ln * i.1 := u2.len.trans u1
      obtain ⟨s2, kp2⟩ : Sim β (bc ex h (h.kill b)) w ∧ Kept β h w β (bc ex h (h.kill b)) w := by
        cases ex
        · exact s.kill b
        · exact ⟨s, Kept.refl ..⟩
      by_cases hcc : ln + q.1 ≤ cc
      · -- it goes into room that is not seen here
        have hex : ex = false := by
          cases ex
          · rfl
          · have := k3 rfl; omega
        subst hex
        obtain ⟨x', hb, c', hc2, hv'⟩ : ∃ x', h.get b = some x' ∧ ∃ c', asCells x' = some c' ∧ takeN (Nat.mul ln i.1) (dropN p c') = some old := by
          have := hold
          unfold Go.Ab.loadCells at this
          simpa only [ob_eq] using this
        obtain ⟨cc2, e2, fr, h1, h2, h3, h4, h5, h6⟩ := s.cells hb hc2 hβ
        obtain ⟨i1, i2, i3, i4, i5, i6⟩ := setCells_heap cb cs.toList (base + p + ln * i.1) w
        obtain ⟨cc3, n1, n2, n3⟩ := i6 _ _ _ h1
        have hfits : base + p + ln * i.1 + q.1 * i.1 ≤ sz := by
          have : (ln + q.1) * i.1 ≤ cc * i.1 := Nat.mul_le_mul_right _ hcc
          rw [Nat.add_mul] at this; omega
        have hrunst : (Go.storeCells ⟨cb, base + p + ln * i.1, none⟩ cs.toList).run P w = .ok () (w.setCells cb (base + p + ln * i.1) cs.toList) := by
          refine run_storeCells_cells cb _ cs.toList 0 w (fun j hj => ?_) (fun j hj => ?_) (fun v hvm => ?_)
          · simp only [World.cell?, h1]
            rw [Array.getElem?_eq_getElem (by simp at hj; omega)]
            rfl
          · simp only [World.frozen?, h1]
            have := h3 (base + p + ln * i.1 + j) (by simp at hj; omega)
            simp only [Nat.add_zero]
            rw [← Bool.not_eq_true]
            simpa using this
          · obtain ⟨j, hj⟩ := List.getElem?_of_mem hvm
            have hj' : j < q.2.length := by
              rw [hcs.len]; rcases Nat.lt_or_ge j cs.toList.length with hh | hh
              · exact hh
              · rw [List.getElem?_eq_none hh] at hj; cases hj
            obtain ⟨u', q1, q2⟩ := hcs.at (List.getElem?_eq_getElem hj')
            rw [hj] at q1; cases q1
            exact q2.one (hone' _ (List.getElem_mem hj'))
        -- the new name of the block
        have hfresh := s.fresh h.next (Nat.le_refl _)
        have hext := Bet.put_ext (r := (cb, base + p, sz)) hfresh
        have hblt : b < h.next := s.lt hb
        have hget : ∀ b' o', ((h.kill b).new (.cells (old ++ q.2) (plainOf h b))).get b' = some o' → (b' = h.next ∧ o' = .cells (old ++ q.2) (plainOf h b)) ∨ (b' ≠ h.next ∧ b' ≠ b ∧ h.get b' = some o') := by
          intro b' o' hb'
          rw [H.get_new, H.next_kill, H.get_kill] at hb'
          by_cases e1 : h.next = b'
          · rw [if_pos e1] at hb'; cases hb'; exact .inl ⟨e1.symm, rfl⟩
          · rw [if_neg e1] at hb'
            by_cases e3 : b = b'
            · rw [if_pos e3] at hb'; cases hb'
            · rw [if_neg e3] at hb'; exact .inr ⟨fun e => e1 e.symm, fun e => e3 e.symm, hb'⟩
        have hput : ∀ b', b' ≠ h.next → β.put h.next (cb, base + p, sz) b' = β b' := fun b' hne => if_neg hne
        have hne : ∀ b' o' r, b' ≠ b → h.get b' = some o' → β b' = some r → r.1 ≠ cb := fun b' o' r hbb hb' hr e => hbb (s.inj b' b o' _ r _ hb' hb hr hβ e)
        refine ⟨β.put h.next (cb, base + p, sz), w.setCells cb (base + p + ln * i.1) cs.toList, ⟨fun b' o' hb' => ?_, fun b1 b2 o1 o2 r1 r2 e1 e2 e3 e4 e5 => ?_, fun b' hb' => ?_⟩, ?_, .slice (some ⟨cb, base + p, none⟩) (ln + q.1) cc, ?_, ?_⟩
        · rcases hget b' o' hb' with ⟨rfl, rfl⟩ | ⟨a1, a2, a3⟩
          · refine ⟨cb, base + p, sz, cc3, e2, fr, Bet.put_same .., n1, n2.trans h2, h3, fun hp => h4 (by unfold plainOf at hp; rw [hb] at hp; exact hp), ?_, fun j v hj => ?_⟩
            · rw [List.length_append, holen, hql]; omega
            · rw [n3]
              rw [List.getElem?_append] at hj
              by_cases hlt : j < old.length
              · rw [if_pos hlt] at hj
                rw [if_neg (by omega)]
                obtain ⟨u', q1, q2⟩ := u2.at hj
                have q3 := u4 j u' q1
                simp only [World.cell?, h1] at q3
                exact ⟨u', q3, VR.mono hext _ _ q2⟩
              · rw [if_neg hlt] at hj
                obtain ⟨u', q1, q2⟩ := hcs.at hj
                have hjl : j - old.length < cs.toList.length := by
                  rcases Nat.lt_or_ge (j - old.length) cs.toList.length with hh | hh
                  · exact hh
                  · rw [List.getElem?_eq_none hh] at q1; cases q1
                simp only [Array.length_toList] at hjl
                rw [if_pos (by simp only [Array.length_toList]; omega)]
                refine ⟨u', ?_, VR.mono hext _ _ q2⟩
                rw [show base + p + j - (base + p + ln * i.1) = j - old.length by omega]
                exact q1
          · exact ObjR.turn hext (fun r hr => i5 _ (hne b' o' r a2 a3 hr)) (s.obj b' o' a3)
        · rcases hget b1 o1 e1 with ⟨rfl, rfl⟩ | ⟨a1, a2, a3⟩ <;> rcases hget b2 o2 e2 with ⟨rfl, rfl⟩ | ⟨c1, c2, c3⟩
          · rfl
          · rw [Bet.put_same] at e3; cases e3
            rw [hput b2 c1] at e4
            exact absurd e5.symm (hne b2 o2 r2 c2 c3 e4)
          · rw [Bet.put_same] at e4; cases e4
            rw [hput b1 a1] at e3
            exact absurd e5 (hne b1 o1 r1 a2 a3 e3)
          · rw [hput b1 a1] at e3
            rw [hput b2 c1] at e4
            exact s.inj b1 b2 o1 o2 r1 r2 a3 c3 e3 e4 e5
        · have hb'' : h.next + 1 ≤ b' := hb'
          rw [hput b' (by omega)]
          exact s.fresh b' (by omega)
        · refine ⟨Nat.le_of_eq i4.symm, hext, fun b' r hr => ?_, by show h.next ≤ h.next + 1; omega, fun k hk hn2 => i5 k (fun e => hn2 b _ _ hb hβ e.symm), fun b' o' r hb' hr => .inl ?_, i1, i2, i3⟩
          · by_cases e : b' = h.next
            · exact .inr (Nat.le_of_eq e.symm)
            · rw [hput b' e] at hr; exact .inl hr
          · rcases hget b' o' hb' with ⟨rfl, rfl⟩ | ⟨a1, a2, a3⟩
            · rw [Bet.put_same] at hr; cases hr
              exact ⟨b, _, _, hb, hβ, rfl⟩
            · rw [hput b' a1] at hr; exact ⟨b', o', r, a3, hr, rfl⟩
        · rw [room (base := some ⟨cb, base + p, none⟩) (sLen := ln) (sCap := cc) hcc]
          simp only [Addr_add, hrunst]; rfl
        · simp only [VR]
          refine ⟨cb, base + p, sz, cc, Bet.put_same .., ?_, Nat.le_refl _, hcc, fun e => (by cases e), by omega⟩
          rw [Nat.add_zero]; rfl
      · obtain ⟨cap', c1, c2⟩ := grow (base := some ⟨cb, base + p, none⟩) (sLen := ln) (sCap := cc) (by omega) hb2 hb1 (old := us.toArray) (by
          have hr := run_loadCells_list (P := P) w.drew ⟨cb, base + p, none⟩ us (fun j u hj => by rw [Addr_add]; exact u4 j u hj)
          rw [u1] at hr
          exact hr)
        have hnx : (bc ex h (h.kill b)).next = h.next := by cases ex <;> rfl
        have := mk s2 kp2 u2 holen c1 c2 (bc ex true (plainOf h b))
        rw [hnx] at this
        exact this
  · -- an empty one, nobody knows where
    simp only [lenOf, Option.some.injEq] at hl
    subst hl
    simp only [bc_none, Option.some.injEq] at he
    obtain ⟨h0, rfl⟩ := he
    have h0' := beq_t.1 h0
    obtain ⟨a, c, ev⟩ := hs
    subst ev
    refine .plain s (cv := .slice (some a) 0 c) ?_ ⟨a, c, rfl⟩
    rw [room (base := some a) (sLen := 0) (sCap := c) (by omega), h0']
    have hcs0 : cs = #[] := by
      apply Array.eq_empty_of_size_eq_zero
      rw [hcl, h0', Nat.zero_mul]
    rw [hcs0]; rfl

end Go.Ab
