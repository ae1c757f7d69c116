/- An operation that makes a block: the same at an identity that was kept back. -/
import Derived.Test.YtleafkdgnlngmaaGreatDoorAbOps5
namespace Go.Ab
open Go
variable [Th]
variable {P : Program} {X : Ext} {η : Operand → Value} {ε : Env} {o : Oper} {β : Bet} {h : H} {w : World} {r : R} {id : Nat}

structure KeptI (β : Bet) (h : H) (w : World) (β' : Bet) (id : Nat) (obj : AObj) (w' : World) : Prop where
  kept : Kept β (backNext id h) w β' (h.set id obj) w'
  dom : ∀ b r, β' b = some r → β b = some r ∨ b = id

def MOk (P : Program) (η : Operand → Value) (o : Oper) (β : Bet) (h : H) (w : World) (id : Nat) : R → Prop
  | .val v h' => ∃ obj β' w', h' = (backNext id h).new obj ∧ Sim β' (h.set id obj) w' ∧ KeptI β h w β' id obj w' ∧ ∃ cv, (execOp η o).run P w = .ok (.value cv) w' ∧ VR β' v cv
  | .call _ _ _ => False

theorem Sim.makeAt {β : Bet} {h : H} {w : World} {id : Nat} (s : Sim β h w) (hi1 : β id = none) (_hi2 : h.get id = none) (hi3 : id < h.next) (o : AObj) (x : Obj) (base sz : Nat)
    (ho : ∀ β' w', (∀ b r, β b = some r → β' b = some r) → β' id = some (w.heap.size, base, sz) → w'.heap[w.heap.size]? = some x → ObjR β' w' id o) :
    Sim (β.put id (w.heap.size, base, sz)) (h.set id o) (w.alloc x) ∧ KeptI β h w (β.put id (w.heap.size, base, sz)) id o (w.alloc x) := by
  have hext := Bet.put_ext (r := (w.heap.size, base, sz)) (hi1)
  have hnew : (w.alloc x).heap[w.heap.size]? = some x := by show (w.heap.push x)[w.heap.size]? = some x; simp
  have hold : ∀ k, k < w.heap.size → (w.alloc x).heap[k]? = w.heap[k]? := by
    intro k hk; show (w.heap.push x)[k]? = w.heap[k]?; rw [Array.getElem?_push, if_neg (by omega)]
  have hlt : ∀ b o', h.get b = some o' → ∀ r, β b = some r → r.1 < w.heap.size := by
    intro b o' hb r hr
    obtain ⟨r', h1, h2⟩ := s.bet hb
    rw [hr] at h1; cases h1; exact h2
  have cases' : ∀ b o', (h.set id o).get b = some o' → ∀ r, β.put id (w.heap.size, base, sz) b = some r → (b = id ∧ o' = o ∧ r.1 = w.heap.size) ∨ (b ≠ id ∧ h.get b = some o' ∧ β b = some r) := by
    intro b o' hb r hr
    rw [H.get_set] at hb
    by_cases e : id = b
    · subst e
      rw [if_pos rfl] at hb
      rw [Bet.put_same] at hr
      cases hb; cases hr
      exact .inl ⟨rfl, rfl, rfl⟩
    · rw [if_neg e] at hb
      unfold Bet.put at hr
      rw [if_neg (fun e' => e e'.symm)] at hr
      exact .inr ⟨fun e' => e e'.symm, hb, hr⟩
  refine ⟨⟨fun b o' hb => ?_, fun b1 b2 o1 o2 r1 r2 e1 e2 e3 e4 e5 => ?_, fun b hb => ?_⟩, ?_⟩
  · rw [H.get_set] at hb
    by_cases e : id = b
    · subst e
      rw [if_pos rfl] at hb
      cases hb
      exact ho _ _ hext (Bet.put_same ..) hnew
    · rw [if_neg e] at hb
      exact ObjR.turn hext (fun r hr => hold _ (hlt b o' hb r hr)) (s.obj b o' hb)
  · rcases cases' b1 o1 e1 r1 e3 with ⟨a1, a2, a3⟩ | ⟨a1, a2, a3⟩ <;> rcases cases' b2 o2 e2 r2 e4 with ⟨c1, c2, c3⟩ | ⟨c1, c2, c3⟩
    · exact a1.trans c1.symm
    · have := hlt b2 o2 c2 r2 c3; omega
    · have := hlt b1 o1 a2 r1 a3; omega
    · exact s.inj b1 b2 o1 o2 r1 r2 a2 c2 a3 c3 e5
  · rw [H.next_set] at hb
    unfold Bet.put
    rw [if_neg (by omega)]
    exact s.fresh b hb
  · refine ⟨⟨by simp, hext, fun b r hr => ?_, by rw [H.next_set]; exact Nat.le_of_lt hi3, fun k hk _ => hold k hk, fun b o' r hb hr => ?_, rfl, rfl, rfl⟩, fun b r hr => ?_⟩
    · unfold Bet.put at hr
      by_cases e : b = id
      · exact .inr (by rw [e]; exact Nat.le_refl _)
      · rw [if_neg e] at hr; exact .inl hr
    · rcases cases' b o' hb r hr with ⟨a1, a2, a3⟩ | ⟨a1, a2, a3⟩
      · exact .inr (by omega)
      · exact .inl ⟨b, o', r, a2, a3, rfl⟩
    · unfold Bet.put at hr
      by_cases e : b = id
      · exact .inr e
      · rw [if_neg e] at hr; exact .inl hr

theorem newCellsAt_ok (s : Sim β h w) (hi1 : β id = none) (hi2 : h.get id = none) (hi3 : id < h.next) {cs : List AV} {ccs : Array Value} {rest : Array Value} {e : TypeId} (hc : VRs β cs ccs.toList) {n c cc es : Nat} {ex : Bool} (h1 : n ≤ c) (h2 : c ≤ cc) (h3 : ex = true → cc = c) (h4 : cc * es ≤ ccs.size + rest.size) (pl : Bool := true) :
    ∃ β' w', w' = w.alloc (.cells (ccs ++ rest) e) ∧ Sim β' (h.set id (.cells cs pl)) w' ∧ KeptI β h w β' id (.cells cs pl) w' ∧ VR β' (.sl id 0 n c es ex) (.slice (some ⟨w.heap.size, 0, none⟩) n cc) := by
  obtain ⟨m1, m2⟩ := s.makeAt hi1 hi2 hi3 (.cells cs pl) (.cells (ccs ++ rest) e) 0 (ccs ++ rest).size (fun β' w' hb hn hw =>
    ⟨w.heap.size, 0, _, ccs ++ rest, e, (0, 0), hn, hw, rfl, by simp, by simp, by have := hc.len; simp at this ⊢; omega, fun j v hj => by
      obtain ⟨u, g1, g2⟩ := (VRs.mono hb _ _ hc).at hj
      rw [Array.getElem?_toList] at g1
      refine ⟨u, ?_, g2⟩
      rw [Nat.zero_add, Array.getElem?_append, if_pos ?_]
      · exact g1
      · rcases Nat.lt_or_ge j ccs.size with hh | hh
        · exact hh
        · rw [Array.getElem?_eq_none hh] at g1; cases g1⟩)
  refine ⟨_, _, rfl, m1, m2, ?_⟩
  simp only [VR]
  exact ⟨_, _, _, cc, Bet.put_same .., rfl, h1, h2, h3, by simp only [Array.size_append]; omega⟩

theorem mk_alloc {e : TypeId} (ho : o.op = .alloc e) (s : Sim β h w) (hi1 : β id = none) (hi2 : h.get id = none) (hi3 : id < h.next) (he : e_alloc e P X ε (backNext id h) = some r) : MOk P η o β h w id r := by
  simp only [e_alloc, ob_eq, Option.some.injEq] at he
  obtain ⟨z, hz, rfl⟩ := he
  obtain ⟨i, zv, h1, h2, h3⟩ := tzero_eq hz
  have hv := ofVals_VR β _ _ h3
  obtain ⟨m1, m2⟩ := s.makeAt hi1 hi2 hi3 (.cells z true) (.cells zv.cells e) 0 zv.cells.size (fun β' w' hb hn hw =>
    ⟨w.heap.size, 0, zv.cells.size, zv.cells, e, (0, 0), hn, hw, rfl, by simp, by simp, by have := hv.len; simp at this; omega, fun j v hj => by
      obtain ⟨u, g1, g2⟩ := (VRs.mono hb _ _ hv).at hj
      rw [Array.getElem?_toList] at g1
      exact ⟨u, by simpa using g1, g2⟩⟩)
  refine ⟨_, _, _, rfl, m1, m2, .pointer (some ⟨w.heap.size, 0, none⟩), ?_, ?_⟩
  · simp [execOp, ho, Instr.alloc, run_zeroValue' h1 h2, newVar, newRow]
  · simp only [VR]; exact ⟨_, _, _, Bet.put_same .., rfl⟩

theorem mk_box {t : TypeId} {x : Operand} (ho : o.op = .box t x) (s : Sim β h w) (hi1 : β id = none) (hi2 : h.get id = none) (hi3 : id < h.next) (hε : ∀ x v, ε x = some v → VR β v (η x)) (he : e_box t x P X ε (backNext id h) = some r) : MOk P η o β h w id r := by
  simp only [e_box, ob_eq, Option.some.injEq] at he
  obtain ⟨v, hx, rfl⟩ := he
  have hv := (hε _ _ hx).cells'
  obtain ⟨m1, m2⟩ := s.makeAt hi1 hi2 hi3 (.cells v.cells true) (.cells (η x).cells t) 0 (η x).cells.size (fun β' w' hb hn hw =>
    ⟨w.heap.size, 0, (η x).cells.size, (η x).cells, t, (0, 0), hn, hw, rfl, by simp, by simp, by have := hv.len; simp at this; omega, fun j v hj => by
      obtain ⟨u, g1, g2⟩ := (VRs.mono hb _ _ hv).at hj
      rw [Array.getElem?_toList] at g1
      exact ⟨u, by simpa using g1, g2⟩⟩)
  refine ⟨_, _, _, rfl, m1, m2, .pointer (some ⟨w.heap.size, 0, none⟩), ?_, ?_⟩
  · simp [execOp, ho, Instr.box, newVar, newRow]
  · simp only [VR]; exact ⟨_, _, _, Bet.put_same .., rfl⟩

theorem mk_makeMap {t : TypeId} {q : Option Operand} (ho : o.op = .makeMap t q) (s : Sim β h w) (hi1 : β id = none) (hi2 : h.get id = none) (hi3 : id < h.next) (he : e_makeMap t q P X ε (backNext id h) = some r) : MOk P η o β h w id r := by
  simp only [e_makeMap, bc_none, Option.some.injEq] at he
  obtain ⟨hq, rfl⟩ := he
  cases q with
  | some _ => cases hq
  | none =>
    obtain ⟨m1, m2⟩ := s.makeAt hi1 hi2 hi3 (.map []) (.map #[] 0) 0 0 (fun β' w' hb hn hw => ⟨w.heap.size, 0, 0, #[], 0, hn, hw, rfl⟩)
    refine ⟨_, _, _, rfl, m1, m2, .map (some w.heap.size), ?_, ?_⟩
    · simp [execOp, ho, Instr.makeMap]
    · simp only [VR]; exact ⟨_, _, _, Bet.put_same .., rfl⟩

theorem mk_buildSlice {t : TypeId} {len : Nat} {ps : Array (Nat × Operand)} (ho : o.op = .buildSlice t len ps) (s : Sim β h w) (hi1 : β id = none) (hi2 : h.get id = none) (hi3 : id < h.next) (hε : ∀ x v, ε x = some v → VR β v (η x)) (he : e_buildSlice t len ps P X ε (backNext id h) = some r) : MOk P η o β h w id r := by
  simp only [e_buildSlice, ob_eq, bc_none, newSl, Option.some.injEq] at he
  obtain ⟨e, ht, i, hi, q, hq, hle, cs, hcs, rfl⟩ := he
  obtain ⟨inf, z, h1, h2, _, h4, h5, h6, h7⟩ := elemInfo_eq hi
  have ht' := telem_eq ht
  have hz := ofVals_VR β _ _ h5
  have hn : tsize P e = some i.1 := by unfold tsize; rw [h1]; simp [h2]
  obtain ⟨g1, g2⟩ := evParts_ok hε hq
  have hps : ∀ (j : Nat) a x, q[j]? = some a → ((ps.map fun (x : Nat × Operand) => (x.1, η x.2)).toList)[j]? = some x → a.1 = x.1 ∧ VR β a.2 x.2 := by
    intro j a x ha hx
    rw [Array.getElem?_toList, Array.getElem?_map] at hx
    cases hj : ps[j]? with
    | none => rw [hj] at hx; cases hx
    | some y =>
      rw [hj] at hx; simp only [Option.map_some, Option.some.injEq] at hx; subst hx
      exact g2 j a y ha (by rw [Array.getElem?_toList]; exact hj)
  have hlen : q.length = ((ps.map fun (x : Nat × Operand) => (x.1, η x.2)).toList).length := by simp [g1]
  have hrep := repl_VRs hz (by omega) len
  rw [h7] at hrep
  have hzz : VRs β (repl i.2.2 len) ((Array.range (len * i.1)).map ((if len * i.1 = 0 then #[] else z.cells)[· % (if len * i.1 = 0 then #[] else z.cells).size]!)).toList := by
    by_cases h0 : len * i.1 = 0
    · have : len = 0 := by rcases Nat.mul_eq_zero.1 h0 with h | h; exact h; exact absurd h h6
      subst this; show VRs β [] _; simp [VRs]
    · rw [if_neg h0]; exact hrep
  obtain ⟨ccs, k1, k2⟩ := fill_ok (place' := fun j => some (j * i.1, i.1)) (fun i q hq => hq) q _ hlen hps hcs hzz
  have hsz : ccs.size = len * i.1 := by
    have a1 := k2.len
    have a2 : ∀ (ps : List (Nat × AV)) {a b : List AV}, fillParts (fun j => some (Nat.mul j i.1, i.1)) ps a = some b → b.length = a.length := by
      intro ps
      induction ps with
      | nil => intro a b hh; simp only [fillParts, Option.some.injEq] at hh; rw [hh]
      | cons p ps ih =>
        intro a b hh
        have hf' : ob (some (Nat.mul p.1 i.1, i.1)) (fun q => bc (Nat.beq p.2.cells.length q.2) (ob (setRange a q.1 p.2.cells) fun cells => fillParts (fun j => some (Nat.mul j i.1, i.1)) ps cells) none) = some b := hh
        simp only [ob_eq, bc_none] at hf'
        obtain ⟨q, _, _, c2, h2, h3⟩ := hf'
        obtain ⟨g1, g2, g3⟩ := setRange_eq a h2
        rw [ih h3, g3]; simp; omega
    rw [a2 _ hcs, repl_len, h7] at a1
    simp at a1; omega
  obtain ⟨β', w', e1, m1, m2, m3⟩ := newCellsAt_ok (ex := true) (rest := #[]) (e := e) s hi1 hi2 hi3 k2 (Nat.le_refl len) (Nat.le_refl len) (fun _ => rfl) (es := i.1) (by simp; omega)
  refine ⟨_, β', w', rfl, m1, m2, _, ?_, m3⟩
  have hle' := ble_t.1 hle
  have hle2 : len * i.1 ≤ 16777216 := hle'
  subst e1
  simp only [execOp, ho, Instr.buildSlice, Sem.run_bind, run_underlying ht', Result.andThen_ok, run_sizeOf' hn]
  rw [if_neg (by omega)]
  by_cases h0 : len * i.1 = 0
  · simp only [if_pos h0] at k1 ⊢
    simp only [Sem.run_bind, Sem.run_pure, Result.andThen_ok, k1]
    simp [newRow]
  · simp only [if_neg h0] at k1 ⊢
    simp only [Sem.run_bind, run_zeroValue' h1 h4, Sem.run_pure, Result.andThen_ok, k1]
    simp [newRow]

theorem mk_makeSlice {t : TypeId} {l c : Operand} (ho : o.op = .makeSlice t l c) (s : Sim β h w) (hi1 : β id = none) (hi2 : h.get id = none) (hi3 : id < h.next) (hε : ∀ x v, ε x = some v → VR β v (η x)) (he : e_makeSlice t l c P X ε (backNext id h) = some r) : MOk P η o β h w id r := by
  simp only [e_makeSlice, ob_eq, bc_none, newSl, Option.some.injEq] at he
  obtain ⟨e, ht, i, hi, lv, hl, ln, hln, cv, hc, cn, hcn, h1, h2, rfl⟩ := he
  obtain ⟨inf, z, g1, g2, g3, g4, g5, g6, g7⟩ := elemInfo_eq hi
  obtain ⟨k1, rfl⟩ := asIdx_eq hln
  obtain ⟨k2, rfl⟩ := asIdx_eq hcn
  have e1 := (hε _ _ hl).int
  have e2 := (hε _ _ hc).int
  have ht' := telem_eq ht
  have hz := ofVals_VR β _ _ g5
  have hn : tsize P e = some i.1 := by unfold tsize; rw [g1]; simp [g2]
  have h1' := ble_t.1 h1
  have h2' : cn * (i.2.1 + 1) ≤ 1099511627776 := ble_t.1 h2
  have hcb : cn * i.2.1 ≤ 1099511627776 := Nat.le_trans (Nat.mul_le_mul_left _ (Nat.le_succ _)) h2'
  have hcn' : cn ≤ 1099511627776 := Nat.le_trans (Nat.le_mul_of_pos_right cn (Nat.succ_pos _)) h2'
  have hrep := repl_VRs hz (by omega) cn
  rw [g7] at hrep
  have hsz : ((Array.range (cn * i.1)).map (z.cells[· % z.cells.size]!)).size = cn * i.1 := by simp
  obtain ⟨β', w', e3, m1, m2, m3⟩ := newCellsAt_ok (ex := true) (rest := #[]) (e := e) s hi1 hi2 hi3 hrep h1' (Nat.le_refl cn) (fun _ => rfl) (es := i.1) (by rw [hsz]; simp)
  refine ⟨_, β', w', rfl, m1, m2, _, ?_, m3⟩
  subst e3
  have w1 : IntKind.i64.wrap (cn : Int) = cn := by
    rw [wrap_eq]; simp only [sgnK, halfK, modK]
    have : ((cn : Int)) % ((18446744073709551616 : Nat) : Int) = cn := Int.emod_eq_of_lt (by omega) (by omega)
    rw [this, if_neg (by omega)]
  have w2 : IntKind.i64.wrap (ln : Int) = ln := by
    rw [wrap_eq]; simp only [sgnK, halfK, modK]
    have : ((ln : Int)) % ((18446744073709551616 : Nat) : Int) = ln := Int.emod_eq_of_lt (by omega) (by omega)
    rw [this, if_neg (by omega)]
  simp only [execOp, ho, Instr.makeSlice, Sem.run_bind, run_underlying ht', Result.andThen_ok, e1, e2, Go.asInt, asIntOf, Sem.run_pure, run_typeInfo' g1, g3, Int.ofNat_eq_natCast, w1, w2]
  have hcbI : (i.2.1 : Int) * (cn : Int) ≤ 281474976710656 := by
    have : ((cn * i.2.1 : Nat) : Int) ≤ 1099511627776 := by omega
    rw [Int.natCast_mul] at this
    rw [Int.mul_comm]; omega
  have b1 : ((cn : Int) < 0) = False := by simp
  have b2 : (((i.2.1 : Int) * (cn : Int) > 2 ^ 48) : Prop) = False := by simp only [eq_iff_iff, iff_false]; omega
  have b3 : ((ln : Int) < 0) = False := by simp
  have b4 : (((ln : Int) > (cn : Int)) : Prop) = False := by simp only [eq_iff_iff, iff_false]; omega
  simp only [b1, b2, b3, b4, decide_false, Bool.or_false, Bool.false_eq_true, if_false, Sem.run_bind, run_askRoom, Result.andThen_ok, run_sizeOf' hn, Int.toNat_natCast]
  by_cases h0 : cn * i.1 = 0
  · simp only [h0, if_true, Sem.run_bind, Sem.run_pure, Result.andThen_ok]
    simp [newRow, Array.range_zero']
  · simp only [if_neg h0, Sem.run_bind, run_zeroValue' g1 g4, Sem.run_pure, Result.andThen_ok]
    simp [newRow]

theorem mk_ok (hk : kindOf P o.op = 1) (s : Sim β h w) (hi1 : β id = none) (hi2 : h.get id = none) (hi3 : id < h.next) (hε : ∀ x v, ε x = some v → VR β v (η x)) (he : exec P X ε (backNext id h) o.op = some r) : MOk P η o β h w id r := by
  cases ho : o.op <;> rw [ho] at he hk <;> first
    | exact mk_alloc (ε := ε) (X := X) ho s hi1 hi2 hi3 he
    | exact mk_box (ε := ε) (X := X) ho s hi1 hi2 hi3 hε he
    | exact mk_makeMap (ε := ε) (X := X) ho s hi1 hi2 hi3 he
    | exact mk_buildSlice (ε := ε) (X := X) ho s hi1 hi2 hi3 hε he
    | exact mk_makeSlice (ε := ε) (X := X) ho s hi1 hi2 hi3 hε he
    | (exfalso; simp only [kindOf] at hk; first | (cases hk; done) | (split at hk <;> first | (cases hk; done) | (split at hk <;> cases hk; done)))

end Go.Ab
