/- Each operation of the evaluator stands for the model's: memory, structs, arrays, slices. -/
import Derived.Test.YtleafkdgnlngmaaGreatDoorAbOps1
namespace Go.Ab
open Go
variable [Th]
variable {P : Program} {X : Ext} {η : Operand → Value} {ε : Env} {o : Oper} {β : Bet} {h : H} {w : World} {r : R}

omit [Th] in
theorem Addr_add (cb p n : Nat) : (⟨cb, p, none⟩ : Addr).add n = ⟨cb, p + n, none⟩ := by
  unfold Addr.add; split
  · subst_vars; rfl
  · rfl

theorem run_loadT (s : Sim β h w) {t : TypeId} {b p : Nat} {v : AV} (hl : loadT P h t b p = some v) {cb base sz : Nat} (hβ : β b = some (cb, base, sz)) :
    ∃ cv, (loadVar t ⟨cb, base + p, none⟩).run P w = .ok cv w ∧ VR β v cv := by
  simp only [loadT, ob_eq] at hl
  obtain ⟨a, ha, hl⟩ := hl
  cases a with
  | true =>
    simp only [bc_true, ob_eq, Option.some.injEq] at hl
    obtain ⟨n, hn, l, hl', rfl⟩ := hl
    obtain ⟨us, g1, g2, _, g3⟩ := s.cellsAt hl' hβ
    refine ⟨.agg us.toArray, ?_, by simp only [VR]; exact ⟨_, rfl, g2⟩⟩
    have hr := run_loadCells_list (P := P) w ⟨cb, base + p, none⟩ us (fun j u hj => by rw [Addr_add]; exact g3 j u hj)
    rw [g1] at hr
    simp [loadVar, run_isAgg' ha, run_sizeOf' hn, hr]
  | false =>
    simp only [bc_false] at hl
    obtain ⟨u, g1, g2⟩ := s.cell hl hβ
    exact ⟨u, by simp [loadVar, run_isAgg' ha, g1], g2⟩

theorem op_load {t : TypeId} {a : Operand} (ho : o.op = .load t a) (s : Sim β h w) (hε : ∀ x v, ε x = some v → VR β v (η x)) (he : e_load t a P X ε h = some r) : OpOk P η o β h w r := by
  simp only [e_load, ob_eq, retV, Option.some.injEq] at he
  obtain ⟨v, hx, p, hp, u, hu, rfl⟩ := he
  have := asPtr_eq hp
  subst this
  obtain ⟨cb, base, sz, hβ, e⟩ := (hε _ _ hx).ptr
  obtain ⟨cv, g1, g2⟩ := run_loadT (P := P) s hu hβ
  exact .plain s (cv := cv) (by simp [execOp, ho, Instr.loadAt, Instr.sureAddr, e, g1]) g2

theorem storeCells_ok (s : Sim β h w) {b p : Nat} {vs : List AV} {us : List Value} {h' : H} (hs : Go.Ab.storeCells h b p vs = some h') (hv : VRs β vs us) {cb base sz : Nat} (hβ : β b = some (cb, base, sz)) :
    (Go.storeCells ⟨cb, base + p, none⟩ us).run P w = .ok () (w.setCells cb (base + p) us) ∧ Sim β h' (w.setCells cb (base + p) us) ∧ Kept β h w β h' (w.setCells cb (base + p) us) := by
  simp only [Go.Ab.storeCells, ob_eq, Option.some.injEq] at hs
  obtain ⟨x, hb, c, hc, c', hr, rfl⟩ := hs
  obtain ⟨m1, m2⟩ := s.write hb hc hv hr hβ
  refine ⟨?_, m1, m2⟩
  obtain ⟨g1, g2, g3⟩ := setRange_eq c hr
  obtain ⟨cc, e, fr, h1, h2, h3, h4, h5, h6⟩ := s.cells hb hc hβ
  have hlen := hv.len
  refine run_storeCells_cells cb (base + p) us 0 w (fun j hj => ?_) (fun j hj => ?_) (fun v hvm => ?_)
  · simp only [World.cell?, h1]
    rw [Array.getElem?_eq_getElem (by omega)]
    rfl
  · simp only [World.frozen?, h1]
    have := h3 (base + p + j) (by omega)
    simp only [Nat.add_zero]
    rw [← Bool.not_eq_true]
    simpa using this
  · obtain ⟨i, hi⟩ := List.getElem?_of_mem hvm
    have hi' : i < vs.length := by
      rw [hlen]; rcases Nat.lt_or_ge i us.length with hh | hh
      · exact hh
      · rw [List.getElem?_eq_none hh] at hi; cases hi
    obtain ⟨u, k1, k2⟩ := hv.at (List.getElem?_eq_getElem hi')
    rw [hi] at k1; cases k1
    exact k2.one (g1 _ (List.getElem_mem hi'))

theorem op_store {t : TypeId} {a x : Operand} (ho : o.op = .store t a x) (s : Sim β h w) (hε : ∀ x v, ε x = some v → VR β v (η x)) (he : e_store t a x P X ε h = some r) : OpOk P η o β h w r := by
  simp only [e_store, ob_eq, retV, Option.some.injEq] at he
  obtain ⟨v, hx, p, hp, u, hu, h', hs, rfl⟩ := he
  have := asPtr_eq hp
  subst this
  obtain ⟨cb, base, sz, hβ, e⟩ := (hε _ _ hx).ptr
  simp only [storeT, ob_eq, bc_none] at hs
  obtain ⟨n, hn, h1, h2⟩ := hs
  have hv := (hε _ _ hu).cells'
  obtain ⟨g1, g2, g3⟩ := storeCells_ok (P := P) s h2 hv hβ
  refine ⟨_, _, g2, g3, .inr ⟨?_, rfl⟩⟩
  have hn' : (η x).cells.size = n := by have := hv.len; have := beq_t.1 h1; simp at *; omega
  simp [execOp, ho, Instr.storeAt, Instr.sureAddr, e, storeVar, run_sizeOf' hn, hn', g1]

omit [Th] in
theorem fieldOf_eq {t : TypeId} {i : Nat} {f : Field} (hh : fieldOf P t i = some f) : ∃ fs, P.underlying t = some (.struct fs) ∧ fs[i]? = some f := by
  simp only [fieldOf, ob_eq, nth_eq] at hh
  obtain ⟨d, hd, fs, hs, hf⟩ := hh
  cases d <;> simp [asStruct] at hs
  subst hs
  exact ⟨_, hd, by simpa using hf⟩

theorem op_fieldAddr {t : TypeId} {x : Operand} {i : Nat} (ho : o.op = .fieldAddr t x i) (s : Sim β h w) (hε : ∀ x v, ε x = some v → VR β v (η x)) (he : e_fieldAddr t x i P X ε h = some r) : OpOk P η o β h w r := by
  simp only [e_fieldAddr, ob_eq, bc_some, retV, Option.some.injEq] at he
  obtain ⟨f, hf, n, hn, h0, v, hx, p, hp, rfl⟩ := he
  have := asPtr_eq hp
  subst this
  obtain ⟨cb, base, sz, hβ, e⟩ := (hε _ _ hx).ptr
  obtain ⟨fs, h1, h2⟩ := fieldOf_eq hf
  have h0' := beq_f.1 h0
  refine .plain s (cv := .pointer (some ⟨cb, base + (p.2 + f.offset), none⟩)) ?_ (by simp only [VR]; exact ⟨_, _, _, hβ, rfl⟩)
  simp [execOp, ho, Instr.fieldAt, run_underlying h1, h2, Instr.sureAddr, e, fieldPlace, run_sizeOf' hn, h0', Addr_add, Nat.add_assoc]

theorem run_part {t : TypeId} {cs : List AV} {off : Nat} {v : AV} {ccs : Array Value} (hh : partOf P t cs off = some v) (hc : VRs β cs ccs.toList) (w : World) :
    ∃ cv, (part t ccs off).run P w = .ok cv w ∧ VR β v cv := by
  simp only [partOf, ob_eq] at hh
  obtain ⟨a, ha, hh⟩ := hh
  cases a with
  | true =>
    simp only [bc_true, ob_eq, Option.some.injEq] at hh
    obtain ⟨n, hn, l, hl, rfl⟩ := hh
    obtain ⟨g1, g2, g3⟩ := takeN_dropN hl
    have hlen := hc.len
    refine ⟨.agg (ccs.extract off (off + n)), by simp [part, run_isAgg' ha, run_sizeOf' hn], ?_⟩
    simp only [VR]
    refine ⟨_, rfl, VRs_iff.2 ⟨?_, fun i a v hi hv => ?_⟩⟩
    · simp at hlen ⊢; omega
    · have hi' : i < n := by
        rcases Nat.lt_or_ge i n with hh | hh
        · exact hh
        · rw [List.getElem?_eq_none (by omega)] at hi; cases hi
      rw [g3 i hi'] at hi
      obtain ⟨u, k1, k2⟩ := hc.at hi
      rw [Array.getElem?_toList] at k1 hv
      rw [Array.getElem?_extract] at hv
      split at hv
      · rw [k1] at hv; cases hv; exact k2
      · cases hv
  | false =>
    simp only [bc_false, nth_eq] at hh
    obtain ⟨u, k1, k2⟩ := hc.at hh
    rw [Array.getElem?_toList] at k1
    exact ⟨u, by simp [part, run_isAgg' ha, k1], k2⟩

theorem op_field {t : TypeId} {x : Operand} {i : Nat} (ho : o.op = .field t x i) (s : Sim β h w) (hε : ∀ x v, ε x = some v → VR β v (η x)) (he : e_field t x i P X ε h = some r) : OpOk P η o β h w r := by
  simp only [e_field, ob_eq, retV, Option.some.injEq] at he
  obtain ⟨f, hf, v, hx, cs, hcs, u, hu, rfl⟩ := he
  have := asAgg_eq hcs
  subst this
  obtain ⟨l', e, hl⟩ := (hε _ _ hx).agg
  obtain ⟨fs, h1, h2⟩ := fieldOf_eq hf
  obtain ⟨cv, g1, g2⟩ := run_part hu hl w
  refine .plain s (cv := cv) ?_ g2
  simp [execOp, ho, Instr.field, run_underlying h1, h2, e, Go.asAgg, g1]

theorem VR.sl {b p len cap es : Nat} {ex : Bool} {v : Value} (h : VR β (.sl b p len cap es ex) v) :
    ∃ cb base sz cc, β b = some (cb, base, sz) ∧ v = .slice (some ⟨cb, base + p, none⟩) len cc ∧ len ≤ cap ∧ cap ≤ cc ∧ (ex = true → cc = cap) ∧ base + p + cc * es ≤ sz := h

theorem op_indexAddr {t : TypeId} {x ix : Operand} (ho : o.op = .indexAddr t x ix) (s : Sim β h w) (hε : ∀ x v, ε x = some v → VR β v (η x)) (he : e_indexAddr t x ix P X ε h = some r) : OpOk P η o β h w r := by
  simp only [e_indexAddr, ob_eq] at he
  obtain ⟨d, hd, vi, hvi, i, hi, v, hx, he⟩ := he
  obtain ⟨k, rfl⟩ := asIdx_eq hi
  have hi' := (hε _ _ hvi).int
  unfold indexAddrD at he
  cases d <;> simp only [reduceCtorEq] at he
  · rename_i e
    simp only [ob_eq] at he
    obtain ⟨n, hn, he⟩ := he
    cases v <;> simp only [reduceCtorEq, bc_none, retV, Option.some.injEq] at he
    rename_i b p len cap es ex
    obtain ⟨h1, h2, rfl⟩ := he
    obtain ⟨cb, base, sz, cc, hβ, ev, q1, q2, q3, q4⟩ := (hε _ _ hx).sl
    have h2' := blt_t.1 h2
    refine .plain s (cv := .pointer (some ⟨cb, base + (p + i * n), none⟩)) ?_ (by simp only [VR]; exact ⟨_, _, _, hβ, rfl⟩)
    simp only [execOp, ho, Instr.indexAt, hi', asIntOf, ev, Sem.run_bind, Sem.run_pure, Result.andThen_ok, run_underlying hd]
    rw [if_pos (by exact ⟨Int.natCast_nonneg _, by simpa using h2'⟩)]
    simp [run_sizeOf' hn, Addr_add, Nat.add_assoc]
  · rename_i m e
    simp only [bc_none, ob_eq, retV, Option.some.injEq] at he
    obtain ⟨h1, p, hp, n, hn, rfl⟩ := he
    have := asPtr_eq hp
    subst this
    obtain ⟨cb, base, sz, hβ, ev⟩ := (hε _ _ hx).ptr
    have h1' := blt_t.1 h1
    refine .plain s (cv := .pointer (some ⟨cb, base + (p.2 + i * n), none⟩)) ?_ (by simp only [VR]; exact ⟨_, _, _, hβ, rfl⟩)
    simp only [execOp, ho, Instr.indexAt, hi', asIntOf, ev, Sem.run_bind, Sem.run_pure, Result.andThen_ok, run_underlying hd, Instr.sureAddr]
    rw [if_pos (by exact ⟨Int.natCast_nonneg _, by simpa using h1'⟩)]
    simp [run_sizeOf' hn, Addr_add, Nat.add_assoc]

theorem op_index {t : TypeId} {x ix : Operand} (ho : o.op = .index t x ix) (s : Sim β h w) (hε : ∀ x v, ε x = some v → VR β v (η x)) (he : e_index t x ix P X ε h = some r) : OpOk P η o β h w r := by
  simp only [e_index, ob_eq] at he
  obtain ⟨d, hd, vi, hvi, i, hi, v, hx, he⟩ := he
  obtain ⟨k, rfl⟩ := asIdx_eq hi
  have hi' := (hε _ _ hvi).int
  unfold indexD at he
  cases d <;> simp only [reduceCtorEq] at he
  · simp only [ob_eq, retV, Option.some.injEq, nth_eq] at he
    obtain ⟨q, hq, b, hb, rfl⟩ := he
    have := asStr_eq hq
    subst this
    have hv := (hε _ _ hx).str
    have hlt : i < q.length := by
      rcases Nat.lt_or_ge i q.length with hh | hh
      · exact hh
      · rw [List.getElem?_eq_none hh] at hb; cases hb
    refine .plain s (cv := .int .u8 b.toNat) ?_ (by simp [VR])
    have hb' : (⟨⟨q⟩⟩ : ByteArray)[i]? = some b := by
      have hsz : i < (⟨⟨q⟩⟩ : ByteArray).size := hlt
      rw [getElem?_pos (⟨⟨q⟩⟩ : ByteArray) i hsz]
      rw [List.getElem?_eq_getElem hlt] at hb
      exact hb
    simp only [execOp, ho, Instr.index, hi', asIntOf, hv, Sem.run_bind, Sem.run_pure, Result.andThen_ok, run_underlying hd]
    simp [hb']
  · rename_i n e
    simp only [bc_none, ob_eq, retV, Option.some.injEq] at he
    obtain ⟨h1, cs, hcs, m, hm, u, hu, rfl⟩ := he
    have := asAgg_eq hcs
    subst this
    obtain ⟨l', ev, hl⟩ := (hε _ _ hx).agg
    obtain ⟨cv, g1, g2⟩ := run_part hu hl w
    have h1' := blt_t.1 h1
    refine .plain s (cv := cv) ?_ g2
    simp only [execOp, ho, Instr.index, hi', asIntOf, ev, Sem.run_bind, Sem.run_pure, Result.andThen_ok, run_underlying hd]
    rw [if_pos (by exact ⟨Int.natCast_nonneg _, by simpa using h1'⟩)]
    simp only [Sem.run_bind, run_sizeOf' hm, Result.andThen_ok, Int.ofNat_eq_natCast, Int.toNat_natCast]
    have g1' : (part e l' (i * m)).run P w = .ok cv w := g1
    simp [g1']

end Go.Ab
