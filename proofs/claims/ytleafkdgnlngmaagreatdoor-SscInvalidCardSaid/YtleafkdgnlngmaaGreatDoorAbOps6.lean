/- Each operation of the evaluator stands for the model's: assertions, maps, ranges, conversions. -/
import Derived.Test.YtleafkdgnlngmaaGreatDoorAbOps5
import Derived.Laws.RangeAny
namespace Go.Ab
open Go
variable [Th]
variable {P : Program} {X : Ext} {η : Operand → Value} {ε : Env} {o : Oper} {β : Bet} {h : H} {w : World} {r : R}

theorem run_zeroV {t : TypeId} {v : AV} (hh : tzeroV P t = some v) (w : World) : ∃ z, (zeroValue t).run P w = .ok z w ∧ VR β v z := by
  obtain ⟨i, z, h1, h2, h3⟩ := tzeroV_eq hh
  exact ⟨z, run_zeroValue' h1 h2 w, ofVal_VR β _ _ h3⟩

theorem op_typeAssert {x : Operand} {t a : TypeId} {ok : Bool} (ho : o.op = .typeAssert x t a ok) (s : Sim β h w) (hε : ∀ x v, ε x = some v → VR β v (η x)) (he : e_typeAssert x t a ok P X ε h = some r) : OpOk P η o β h w r := by
  simp only [e_typeAssert, ob_eq, bc_some, retV, Option.some.injEq] at he
  obtain ⟨d, hd, hi, u, hx, v, hv, rfl⟩ := he
  have hu := hε _ _ hx
  have hmiss : ∀ {v : AV}, taMiss P a ok = some v → ok = true ∧ ∃ z, (zeroValue a).run P w = .ok z w ∧ VR β v (.tuple #[z, .bool false]) := by
    intro v hv
    simp only [taMiss, bc_none, ob_eq, Option.some.injEq] at hv
    obtain ⟨h1, z, hz, rfl⟩ := hv
    obtain ⟨zv, g1, g2⟩ := run_zeroV (β := β) hz w
    refine ⟨h1, zv, g1, ?_⟩
    simp only [VR, VRs]
    exact ⟨_, rfl, _, _, rfl, g2, _, _, rfl, rfl, rfl⟩
  have hnot : ∀ {α : Type} (f : Array (String × TypeId) → α) (g : α), (match d with | .interface m => f m | _ => g) = g := by
    intro α f g; cases d <;> first | rfl | (simp [isIfcD] at hi)
  cases u <;> simp only [ta, reduceCtorEq] at hv
  · have e1 : η x = .nilIface := hu
    obtain ⟨rfl, z, g1, g2⟩ := hmiss hv
    refine .plain s (cv := .tuple #[z, .bool false]) ?_ g2
    simp only [execOp, ho, Instr.typeAssert, Sem.run_bind, run_underlying hd, Result.andThen_ok, e1]
    cases d <;> first | (simp [isIfcD] at hi; done) | simp [g1]
  · rename_i t' v'
    simp only [VR] at hu
    obtain ⟨a', e1, hv'⟩ := hu
    by_cases ht : t' = a
    · subst ht
      rw [beq_t.2 rfl, bc_true, Option.some.injEq] at hv
      subst hv
      refine .plain s (cv := if ok then .tuple #[a', .bool true] else a') ?_ ?_
      · simp only [execOp, ho, Instr.typeAssert, Sem.run_bind, run_underlying hd, Result.andThen_ok, e1]
        cases d <;> first | (simp [isIfcD] at hi; done) | simp
      · cases ok
        · exact hv'
        · show VR β (.tup [v', .bool true]) (.tuple #[a', .bool true])
          simp only [VR, VRs]
          exact ⟨_, rfl, _, _, rfl, hv', _, _, rfl, rfl, rfl⟩
    · rw [beq_f.2 ht, bc_false] at hv
      obtain ⟨rfl, z, g1, g2⟩ := hmiss hv
      refine .plain s (cv := .tuple #[z, .bool false]) ?_ g2
      simp only [execOp, ho, Instr.typeAssert, Sem.run_bind, run_underlying hd, Result.andThen_ok, e1]
      cases d <;> first | (simp [isIfcD] at hi; done) | simp [g1, ht]

/-! maps -/
omit [Th] in
theorem mapElem_eq {t : TypeId} {z : AV} (hh : mapElem P t = some z) : ∃ k e kk, P.underlying t = some (.map k e) ∧ P.underlying k = some (.int kk) ∧ tzeroV P e = some z := by
  simp only [mapElem, ob_eq] at hh
  obtain ⟨d, hd, hh⟩ := hh
  cases d <;> simp only [reduceCtorEq, ob_eq, bc_none] at hh
  obtain ⟨kd, hk, h1, h2⟩ := hh
  cases kd <;> simp [isIntD] at h1
  exact ⟨_, _, _, hd, hk, h2⟩

theorem sameKey_ok {k : IntKind} {n : Int} {v : AV} {u : Value} {q : Bool} (hs : sameKey k n v = some q) (hv : VR β v u) (kk : IntKind) : Instr.sameNow (.int kk) (.int k n) u = some q := by
  simp only [sameKey, ob_eq, bc_none, Option.some.injEq] at hs
  obtain ⟨p, hp, h1, rfl⟩ := hs
  have := keyOf_eq hp
  subst this
  have e := hv.int
  subst e
  have := kEq_t.1 h1
  subst this
  simp [Instr.sameNow, eqI_eq]

theorem findE_ok {k : IntKind} {n : Int} (kk : IntKind) : ∀ {es : List (AV × AV)} {ces : List MapEntry} {q : Option AV} (i : Nat), EntR β es ces → findE k n es = some q →
    ∃ r, Instr.findNow (.int kk) (.int k n) ces i = some r ∧ match q, r with | none, none => True | some a, some (_, v) => VR β a v | _, _ => False
  | [], ces, q, i, hE, hf => by
    simp only [findE, Option.some.injEq] at hf
    subst hf
    simp only [EntR] at hE
    subst hE
    exact ⟨none, rfl, trivial⟩
  | p :: es, ces, q, i, hE, hf => by
    obtain ⟨e, es', rfl, h1, h2, h3⟩ := hE
    have hf' : ob (sameKey k n p.1) (fun r => bc r (some (some p.2)) (findE k n es)) = some q := hf
    rw [ob_eq] at hf'
    obtain ⟨b, hb, hf'⟩ := hf'
    have hk := sameKey_ok hb h1 kk
    cases b with
    | true =>
      simp only [bc_true, Option.some.injEq] at hf'
      subst hf'
      exact ⟨some (i, e.val), by simp [Instr.findNow, hk], h2⟩
    | false =>
      simp only [bc_false] at hf'
      obtain ⟨r, g1, g2⟩ := findE_ok kk (i + 1) h3 hf'
      exact ⟨r, by simp [Instr.findNow, hk, g1], g2⟩

omit [Th] in
theorem run_checkKey {kt : TypeId} {kk : IntKind} (hk : P.underlying kt = some (.int kk)) (emp : Bool) (d : Nat) (v : Value) : (Instr.checkKey emp (d + 1) kt v).run P w = .ok () w := by
  simp [Instr.checkKey, run_underlying hk]

theorem Sim.mapObj {b : Nat} {x : AObj} {es : List (AV × AV)} (s : Sim β h w) (hb : h.get b = some x) (hx : asMap x = some es) {cb base sz : Nat} (hβ : β b = some (cb, base, sz)) :
    ∃ ces clock, w.heap[cb]? = some (.map ces clock) ∧ EntR β es ces.toList := by
  have ho := s.obj b x hb
  cases x with
  | cells c p => cases hx
  | iter q p => cases hx
  | map es' =>
    simp only [asMap, Option.some.injEq] at hx
    subst hx
    obtain ⟨cb', base', sz', ces, clock, h1, h2, h3⟩ := ho
    rw [h1] at hβ; cases hβ
    exact ⟨ces, clock, h2, h3⟩

omit [Th] in
theorem run_getObj_map' {cb : Nat} {ces : Array MapEntry} {clock : Nat} (hb : w.heap[cb]? = some (.map ces clock)) : (getObj cb).run P w = .ok (.map ces clock) w := by
  simp [getObj, Sem.run, hb]

theorem op_lookup {t : TypeId} {x k : Operand} {ok : Bool} (ho : o.op = .lookup t x k ok) (s : Sim β h w) (hε : ∀ x v, ε x = some v → VR β v (η x)) (he : e_lookup t x k ok P X ε h = some r) : OpOk P η o β h w r := by
  simp only [e_lookup, ob_eq, retV, Option.some.injEq] at he
  obtain ⟨z, hz, m, hm, kv, hk, q, hq, res, hr, rfl⟩ := he
  obtain ⟨kt, e, kk, ht, hkt, hze⟩ := mapElem_eq hz
  have := keyOf_eq hq
  subst this
  have e1 := (hε _ _ hk).int
  have hu := hε _ _ hm
  obtain ⟨zv, z1, z2⟩ := run_zeroV (β := β) hze w
  have htup : ∀ {a : AV} {v : Value} (b : Bool), VR β a v → VR β (bc ok (.tup [a, .bool b]) a) (if ok then .tuple #[v, .bool b] else v) := by
    intro a v b hv
    cases ok
    · exact hv
    · show VR β (.tup [a, .bool b]) (.tuple #[v, .bool b])
      simp only [VR, VRs]
      exact ⟨_, rfl, _, _, rfl, hv, _, _, rfl, rfl, rfl⟩
  cases m <;> simp only [lookupM, reduceCtorEq, ob_eq, Option.some.injEq] at hr
  · have e2 : η x = .map none := hu
    subst hr
    refine .plain s (cv := if ok then .tuple #[zv, .bool false] else zv) ?_ (htup false z2)
    have hck := run_checkKey (P := P) (w := w) hkt true 9999 (.int q.1 q.2)
    have hfk : (Instr.findKey kt (.int q.1 q.2) []).run P w = .ok none w := by
      simp [Instr.findKey, run_underlying hkt, Instr.findNow]
    simp only [execOp, ho, Instr.lookup, Sem.run_bind, run_underlying ht, Result.andThen_ok, e1, e2, Sem.run_pure]
    have he : (#[] : Array MapEntry).isEmpty = true := rfl
    rw [he, hck]
    simp only [Result.andThen_ok, hfk, Sem.run_bind, z1, Sem.run_pure]
  · rename_i b
    obtain ⟨x', hb, es, hes, hr⟩ := hr
    simp only [VR] at hu
    obtain ⟨cb, base, sz, hβ, e2⟩ := hu
    obtain ⟨ces, clock, g3, g4⟩ := s.mapObj hb hes hβ
    obtain ⟨rr, g1, g2⟩ := findE_ok kk 0 g4 hr
    have hck := run_checkKey (P := P) (w := w) hkt ces.isEmpty 9999 (.int q.1 q.2)
    have hfk : (Instr.findKey kt (.int q.1 q.2) ces.toList).run P w = .ok rr w := by
      simp [Instr.findKey, run_underlying hkt, g1]
    cases res with
    | none =>
      cases rr with
      | some _ => exact g2.elim
      | none =>
        refine .plain s (cv := if ok then .tuple #[zv, .bool false] else zv) ?_ (htup false z2)
        simp only [execOp, ho, Instr.lookup, Sem.run_bind, run_underlying ht, Result.andThen_ok, e1, e2, Sem.run_pure, run_getObj_map' g3]
        rw [hck]
        simp only [Result.andThen_ok, hfk, Sem.run_bind, z1, Sem.run_pure]
    | some a =>
      cases rr with
      | none => exact g2.elim
      | some p =>
        obtain ⟨j, v⟩ := p
        refine .plain s (cv := if ok then .tuple #[v, .bool true] else v) ?_ (htup true g2)
        simp only [execOp, ho, Instr.lookup, Sem.run_bind, run_underlying ht, Result.andThen_ok, e1, e2, Sem.run_pure, run_getObj_map' g3]
        rw [hck]
        simp only [Result.andThen_ok, hfk, Sem.run_bind, Sem.run_pure]

/-- a map's object is turned -/
theorem Sim.setMap {b : Nat} {x : AObj} {es es' : List (AV × AV)} (s : Sim β h w) (hb : h.get b = some x) (_hx : asMap x = some es) {cb base sz : Nat} (hβ : β b = some (cb, base, sz)) {ces : Array MapEntry} {clock clock' : Nat} {ces' : Array MapEntry}
    (hw : w.heap[cb]? = some (.map ces clock)) (hE : EntR β es' ces'.toList) :
    ∃ w', (setObj cb (.map ces' clock')).run P w = .ok () w' ∧ Sim β (h.set b (.map es')) w' ∧ Kept β h w β (h.set b (.map es')) w' := by
  have hlt : cb < w.heap.size := by
    rcases Nat.lt_or_ge cb w.heap.size with hh | hh
    · exact hh
    · rw [Array.getElem?_eq_none hh] at hw; cases hw
  have hother : ∀ k, k ≠ cb → (w.heap.setIfInBounds cb (.map ces' clock'))[k]? = w.heap[k]? := by
    intro k hk; rw [Array.getElem?_setIfInBounds, if_neg (fun e => hk e.symm)]
  have hnew : (w.heap.setIfInBounds cb (.map ces' clock'))[cb]? = some (.map ces' clock') := by
    rw [Array.getElem?_setIfInBounds, if_pos rfl, if_pos hlt]
  refine ⟨{ w with heap := w.heap.setIfInBounds cb (.map ces' clock') }, by simp [setObj, Sem.run, hw], ⟨fun b' o' hb' => ?_, fun b1 b2 o1 o2 r1 r2 e1 e2 e3 e4 e5 => ?_, fun b' hb' => s.fresh b' hb'⟩, ?_⟩
  · rw [H.get_set] at hb'
    by_cases e : b = b'
    · subst e
      rw [if_pos rfl] at hb'; cases hb'
      exact ⟨cb, base, sz, ces', clock', hβ, hnew, hE⟩
    · rw [if_neg e] at hb'
      refine ObjR.turn (fun _ _ x => x) (fun r hr => hother _ (fun e' => e (s.inj b b' x o' _ r hb hb' hβ hr e'.symm))) (s.obj b' o' hb')
  · rw [H.get_set] at e1 e2
    have f : ∀ {b1 o1}, (if b = b1 then some (AObj.map es') else h.get b1) = some o1 → ∃ o1', h.get b1 = some o1' := by
      intro b1 o1 hh
      by_cases hbb : b = b1
      · exact ⟨x, hbb ▸ hb⟩
      · rw [if_neg hbb] at hh; exact ⟨_, hh⟩
    exact s.inj b1 b2 _ _ r1 r2 (f e1).choose_spec (f e2).choose_spec e3 e4 e5
  · refine ⟨by simp, fun _ _ x => x, fun _ _ x => .inl x, Nat.le_refl _, fun k hk hne => hother k (fun e => hne b x _ hb hβ e.symm), fun b' o' r hb' hr' => .inl ?_, rfl, rfl, rfl⟩
    rw [H.get_set] at hb'
    by_cases hbb : b = b'
    · subst hbb; exact ⟨b, x, r, hb, hr', rfl⟩
    · rw [if_neg hbb] at hb'; exact ⟨b', o', r, hb', hr', rfl⟩

theorem EntR.snoc : ∀ {es : List (AV × AV)} {ces : List MapEntry} {p : AV × AV} {e : MapEntry}, EntR β es ces → VR β p.1 e.key → VR β p.2 e.val → EntR β (es ++ [p]) (ces ++ [e])
  | [], _, p, e, h, h1, h2 => by simp only [EntR] at h; subst h; exact ⟨e, [], rfl, h1, h2, rfl⟩
  | _ :: _, _, _, _, ⟨e', es', rfl, a, b, c⟩, h1, h2 => ⟨e', es' ++ [_], rfl, a, b, EntR.snoc c h1 h2⟩

theorem putE_ok {k : IntKind} {n : Int} {v : AV} {u : Value} (hv : VR β v u) (kk : IntKind) : ∀ {es es' : List (AV × AV)} {ces : List MapEntry} (i : Nat), EntR β es ces → putE k n v es = some es' →
    (Instr.findNow (.int kk) (.int k n) ces i = some none ∧ es' = es ++ [(.int k n, v)]) ∨
    (∃ j val, Instr.findNow (.int kk) (.int k n) ces i = some (some (i + j, val)) ∧ (∃ key born, ces[j]? = some ⟨key, val, born⟩ ∧ key = .int k n) ∧ EntR β es' (ces.modify j fun e => { e with key := .int k n, val := u }))
  | [], es', ces, i, hE, hf => by
    simp only [putE, Option.some.injEq] at hf
    subst hf
    simp only [EntR] at hE
    subst hE
    exact .inl ⟨rfl, rfl⟩
  | p :: es, es', ces, i, hE, hf => by
    obtain ⟨e, ces', rfl, h1, h2, h3⟩ := hE
    have hf' : ob (sameKey k n p.1) (fun r => bc r (some ((.int k n, v) :: es)) (ob (putE k n v es) fun r => some (p :: r))) = some es' := hf
    rw [ob_eq] at hf'
    obtain ⟨b, hb, hf'⟩ := hf'
    have hk := sameKey_ok hb h1 kk
    cases b with
    | true =>
      simp only [bc_true, Option.some.injEq] at hf'
      subst hf'
      refine .inr ⟨0, e.val, by simp [Instr.findNow, hk], ⟨e.key, e.born, rfl, ?_⟩, ?_⟩
      · simp only [sameKey, ob_eq, bc_none, Option.some.injEq] at hb
        obtain ⟨q, hq, g1, g2⟩ := hb
        have := keyOf_eq hq
        rw [this] at h1
        have e1 := h1.int
        rw [e1, kEq_t.1 g1]
        rw [eqI_eq] at g2
        have : n = q.2 := by simpa using g2
        rw [this]
      · exact ⟨_, _, rfl, rfl, hv, h3⟩
    | false =>
      simp only [bc_false, ob_eq, Option.some.injEq] at hf'
      obtain ⟨r, hr, rfl⟩ := hf'
      rcases putE_ok hv kk (i + 1) h3 hr with ⟨g1, rfl⟩ | ⟨j, val, g1, ⟨key, born, g2, g3⟩, g4⟩
      · exact .inl ⟨by simp [Instr.findNow, hk, g1], rfl⟩
      · refine .inr ⟨j + 1, val, by simp [Instr.findNow, hk, g1]; omega, ⟨key, born, by simpa using g2, g3⟩, ?_⟩
        exact ⟨e, _, rfl, h1, h2, g4⟩

theorem op_mapUpdate {t : TypeId} {m k v : Operand} (ho : o.op = .mapUpdate t m k v) (s : Sim β h w) (hε : ∀ x v, ε x = some v → VR β v (η x)) (he : e_mapUpdate t m k v P X ε h = some r) : OpOk P η o β h w r := by
  simp only [e_mapUpdate, ob_eq, retV, Option.some.injEq] at he
  obtain ⟨z, hz, mv, hm, b, hmb, x, hb, es, hes, kv, hk, q, hq, vv, hv, es', hes', rfl⟩ := he
  obtain ⟨kt, e, kk, ht, hkt, hze⟩ := mapElem_eq hz
  have := keyOf_eq hq
  subst this
  have := asMapV_eq hmb
  subst this
  have e1 := (hε _ _ hk).int
  have hu := hε _ _ hm
  simp only [VR] at hu
  obtain ⟨cb, base, sz, hβ, e2⟩ := hu
  obtain ⟨ces, clock, g3, g4⟩ := s.mapObj hb hes hβ
  have hvr := hε _ _ hv
  have hck := run_checkKey (P := P) (w := w) hkt false 9999 (.int q.1 q.2)
  rcases putE_ok hvr kk 0 g4 hes' with ⟨f1, rfl⟩ | ⟨j, val, f1, ⟨key, born, f2, f3⟩, f4⟩
  · have hfk : (Instr.findKey kt (.int q.1 q.2) ces.toList).run P w = .ok none w := by
      simp [Instr.findKey, run_underlying hkt, f1]
    obtain ⟨w', k1, k2, k3⟩ := s.setMap (P := P) (es' := es ++ [(.int q.1 q.2, vv)]) (ces' := ces.push { key := .int q.1 q.2, val := η v, born := clock }) (clock' := clock + 1) hb hes hβ g3 (by
      rw [Array.toList_push]; exact EntR.snoc g4 rfl hvr)
    refine ⟨_, w', k2, k3, .inr ⟨?_, rfl⟩⟩
    simp [execOp, ho, Instr.mapUpdate, run_underlying ht, e1, e2, run_getObj_map' g3, hck, hfk, k1]
  · have hfk : (Instr.findKey kt (.int q.1 q.2) ces.toList).run P w = .ok (some (0 + j, val)) w := by
      simp [Instr.findKey, run_underlying hkt, f1]
    obtain ⟨w', k1, k2, k3⟩ := s.setMap (P := P) (es' := es') (ces' := ces.modify j fun e => { e with key := .int q.1 q.2, val := η v }) (clock' := clock) hb hes hβ g3 (by
      rw [Array.toList_modify]; exact f4)
    refine ⟨_, w', k2, k3, .inr ⟨?_, rfl⟩⟩
    have hks : (Instr.keyThatStays (((ces[j]?).map (·.key)).getD (.int q.1 q.2)) (.int q.1 q.2)).run P w = .ok (.int q.1 q.2) w := by
      have : ces[j]? = some ⟨key, val, born⟩ := by rw [← Array.getElem?_toList]; exact f2
      rw [this, f3]
      have hsb : Instr.sameBits 10000 (.int q.1 q.2) (.int q.1 q.2) = true := by
        show (q.1 == q.1 && q.2 == q.2) = true; simp
      simp [Instr.keyThatStays, hsb]
    simp only [execOp, ho, Instr.mapUpdate, Sem.run_bind, run_underlying ht, Result.andThen_ok, e1, e2, run_getObj_map' g3, hck, hfk, Nat.zero_add, hks, k1, Sem.run_pure]

theorem op_next {it : Operand} {b : Bool} (ho : o.op = .next it b) (s : Sim β h w) (hε : ∀ x v, ε x = some v → VR β v (η x)) (he : e_next it b P X ε h = some r) : OpOk P η o β h w r := by
  simp only [e_next, bc_none, ob_eq] at he
  obtain ⟨rfl, v, hx, p, hp, h0, ob, hob, i, hi, he⟩ := he
  have := asPtr_eq hp
  subst this
  obtain ⟨cb, base, sz, hβ, e1⟩ := (hε _ _ hx).ptr
  have ho' := s.obj _ _ hob
  cases ob with
  | cells c q => cases hi
  | map es => cases hi
  | iter q pos =>
    simp only [asIter, Option.some.injEq] at hi
    subst hi
    obtain ⟨cb', sz', h1, h2⟩ := ho'
    rw [h1] at hβ
    cases hβ
    have h0' := beq_t.1 h0
    rw [h0'] at e1
    simp only [Nat.add_zero] at e1
    have hget : (getObj cb).run P w = .ok (.stringIter ⟨⟨q⟩⟩ pos) w := by simp [getObj, Sem.run, h2]
    simp only at he
    by_cases hlt : pos < q.length
    · rw [blt_t.2 hlt, bc_true, Option.some.injEq] at he
      subst he
      have hdec : decodeAt q pos = Utf8.decode ⟨⟨q⟩⟩ pos := rfl
      have hlt' : cb < w.heap.size := by
        rcases Nat.lt_or_ge cb w.heap.size with hh | hh
        · exact hh
        · rw [Array.getElem?_eq_none hh] at h2; cases h2
      have hother : ∀ k, k ≠ cb → (w.heap.setIfInBounds cb (.stringIter ⟨⟨q⟩⟩ (pos + (decodeAt q pos).2)))[k]? = w.heap[k]? := by
        intro k hk; rw [Array.getElem?_setIfInBounds, if_neg (fun e => hk e.symm)]
      have hset : (setObj cb (.stringIter ⟨⟨q⟩⟩ (pos + (decodeAt q pos).2))).run P w = .ok () { w with heap := w.heap.setIfInBounds cb (.stringIter ⟨⟨q⟩⟩ (pos + (decodeAt q pos).2)) } := by
        simp [setObj, Sem.run, h2]
      refine ⟨β, { w with heap := w.heap.setIfInBounds cb (.stringIter ⟨⟨q⟩⟩ (pos + (decodeAt q pos).2)) }, ⟨fun b' o' hb' => ?_, fun b1 b2 o1 o2 r1 r2 e1 e2 e3 e4 e5 => ?_, fun b' hb' => s.fresh b' hb'⟩, ?_, .inl ⟨.tuple #[.bool true, .int .i64 pos, .int .i32 (decodeAt q pos).1], ?_, ?_⟩⟩
      · rw [H.get_set] at hb'
        by_cases e : p.1 = b'
        · subst e
          rw [if_pos rfl] at hb'; cases hb'
          exact ⟨cb, sz, h1, by rw [Array.getElem?_setIfInBounds, if_pos rfl, if_pos hlt']; rfl⟩
        · rw [if_neg e] at hb'
          refine ObjR.turn (fun _ _ x => x) (fun r hr => hother _ (fun e' => e (s.inj p.1 b' _ o' _ r hob hb' h1 hr e'.symm))) (s.obj b' o' hb')
      · rw [H.get_set] at e1 e2
        have f : ∀ {b1 o1}, (if p.1 = b1 then some (AObj.iter q (Nat.add pos (decodeAt q pos).2)) else h.get b1) = some o1 → ∃ o1', h.get b1 = some o1' := by
          intro b1 o1 hh
          by_cases hbb : p.1 = b1
          · exact ⟨_, hbb ▸ hob⟩
          · rw [if_neg hbb] at hh; exact ⟨_, hh⟩
        exact s.inj b1 b2 _ _ r1 r2 (f e1).choose_spec (f e2).choose_spec e3 e4 e5
      · refine ⟨by simp, fun _ _ x => x, fun _ _ x => .inl x, Nat.le_refl _, fun k hk hne => hother k (fun e => hne p.1 _ _ hob h1 e.symm), fun b' o' r hb' hr' => .inl ?_, rfl, rfl, rfl⟩
        rw [H.get_set] at hb'
        by_cases hbb : p.1 = b'
        · rw [← hbb] at hr'; exact ⟨p.1, _, r, hob, hr', rfl⟩
        · rw [if_neg hbb] at hb'; exact ⟨b', o', r, hb', hr', rfl⟩
      · have hsz : pos < (⟨⟨q⟩⟩ : ByteArray).size := hlt
        simp only [execOp, ho, Instr.next, e1, Sem.run_bind, hget, Result.andThen_ok]
        rw [if_pos hsz]
        rw [hdec] at hset
        simp only [Sem.run_bind, hset, Result.andThen_ok, Sem.run_pure, hdec]
        rfl
      · simp only [VR, VRs]
        exact ⟨_, rfl, _, _, rfl, rfl, _, _, rfl, rfl, _, _, rfl, rfl, rfl⟩
    · rw [blt_f.2 (by omega), bc_false] at he
      simp only [retV, Option.some.injEq] at he
      subst he
      refine .plain s (cv := .tuple #[.bool false]) ?_ ?_
      · have hsz : ¬ pos < (⟨⟨q⟩⟩ : ByteArray).size := hlt
        simp only [execOp, ho, Instr.next, e1, Sem.run_bind, hget, Result.andThen_ok]
        rw [if_neg hsz]; rfl
      · simp only [VR, VRs]
        exact ⟨_, rfl, _, _, rfl, rfl, rfl⟩

end Go.Ab
