/- Each operation of the evaluator stands for the model's: what is built, slices, assertions, maps, texts that are ranged over. -/
import Derived.Test.YtleafkdgnlngmaaGreatDoorAbOps3
set_option linter.unusedVariables false
set_option linter.unusedSimpArgs false
namespace Go.Ab
open Go
variable [Th]
variable {P : Program} {X : Ext} {η : Operand → Value} {ε : Env} {o : Oper} {β : Bet} {h : H} {w : World} {r : R}

/-! building -/
omit [Th] in
theorem foldl_set (off : Nat) : ∀ (vs : List Value) (k : Nat) (cells : Array Value), off + k + vs.length ≤ cells.size →
    ((vs.zipIdx k).foldl (fun cs (p : Value × Nat) => cs.setIfInBounds (off + p.2) p.1) cells).size = cells.size ∧
    ∀ i : Nat, ((vs.zipIdx k).foldl (fun cs (p : Value × Nat) => cs.setIfInBounds (off + p.2) p.1) cells)[i]? = if off + k ≤ i ∧ i < off + k + vs.length then vs[i - (off + k)]? else cells[i]?
  | [], k, cells, _ => by
    refine ⟨rfl, fun i => ?_⟩
    rw [if_neg (by simp only [List.length_nil]; omega)]
    rfl
  | v :: vs, k, cells, hl => by
    obtain ⟨g1, g2⟩ := foldl_set off vs (k + 1) (cells.setIfInBounds (off + k) v) (by simp at hl ⊢; omega)
    simp only [List.zipIdx_cons, List.foldl_cons]
    refine ⟨by rw [g1]; simp, fun i => ?_⟩
    rw [g2 i]
    simp only [List.length_cons] at hl ⊢
    by_cases h1 : off + (k + 1) ≤ i ∧ i < off + (k + 1) + vs.length
    · rw [if_pos h1, if_pos (by omega), show i - (off + k) = (i - (off + (k + 1))) + 1 by omega]; simp
    · rw [if_neg h1, Array.getElem?_setIfInBounds]
      by_cases h2 : off + k = i
      · subst h2; rw [if_pos rfl, if_pos (by omega), if_pos (by omega)]; simp
      · rw [if_neg h2, if_neg (by omega)]

theorem evParts_ok (hε : ∀ x v, ε x = some v → VR β v (η x)) : ∀ {l : List (Nat × Operand)} {ps : List (Nat × AV)}, evParts ε l = some ps → ps.length = l.length ∧ ∀ (i : Nat) (a : Nat × AV) (x : Nat × Operand), ps[i]? = some a → l[i]? = some x → a.1 = x.1 ∧ VR β a.2 (η x.2)
  | [], ps, hh => by simp only [evParts, Option.some.injEq] at hh; subst hh; simp
  | p :: l, ps, hh => by
    have h' : ob (ε p.2) (fun v => ob (evParts ε l) fun r => some ((p.1, v) :: r)) = some ps := hh
    simp only [ob_eq, Option.some.injEq] at h'
    obtain ⟨v, hv, r, hr, rfl⟩ := h'
    obtain ⟨g1, g2⟩ := evParts_ok hε hr
    refine ⟨by simp [g1], fun i a x ha hx => ?_⟩
    cases i with
    | zero => simp at ha hx; subst ha; subst hx; exact ⟨rfl, hε _ _ hv⟩
    | succ i => simp at ha hx; exact g2 i a x ha hx

theorem fill_ok {place place' : Nat → Option (Nat × Nat)} (hp : ∀ i q, place i = some q → place' i = some q) : ∀ (ps : List (Nat × AV)) (ps' : List (Nat × Value)) {cs cs' : List AV} {ccs : Array Value},
    ps.length = ps'.length → (∀ (i : Nat) (a : Nat × AV) (x : Nat × Value), ps[i]? = some a → ps'[i]? = some x → a.1 = x.1 ∧ VR β a.2 x.2) → fillParts place ps cs = some cs' → VRs β cs ccs.toList →
    ∃ ccs', Instr.fill place' ccs ps' = some ccs' ∧ VRs β cs' ccs'.toList
  | [], [], cs, cs', ccs, _, _, hf, hc => by
    simp only [fillParts, Option.some.injEq] at hf; subst hf; exact ⟨ccs, rfl, hc⟩
  | [], _ :: _, _, _, _, hl, _, _, _ => by simp at hl
  | _ :: _, [], _, _, _, hl, _, _, _ => by simp at hl
  | p :: ps, p' :: ps', cs, cs', ccs, hl, hv, hf, hc => by
    have hf' : ob (place p.1) (fun q => bc (Nat.beq p.2.cells.length q.2) (ob (setRange cs q.1 p.2.cells) fun cells => fillParts place ps cells) none) = some cs' := hf
    simp only [ob_eq, bc_none] at hf'
    obtain ⟨q, hq, h1, c2, h2, h3⟩ := hf'
    obtain ⟨e1, e2⟩ := hv 0 p p' rfl rfl
    obtain ⟨i, v⟩ := p'
    simp only at e1 e2
    subst e1
    obtain ⟨g1, g2, g3⟩ := setRange_eq cs h2
    have e3 := e2.cells'
    have hlen := e3.len
    have hclen := hc.len
    simp only [Array.length_toList] at hlen hclen
    obtain ⟨k1, k2⟩ := foldl_set q.1 v.cells.toList 0 ccs (by simp; omega)
    have hnew : VRs β c2 (v.cells.zipIdx.foldl (fun cs (x : Value × Nat) => cs.setIfInBounds (q.1 + x.2) x.1) ccs).toList := by
      rw [← Array.foldl_toList, Array.toList_zipIdx]
      rw [VRs_iff]
      refine ⟨(show c2.length = ccs.size by rw [g3]; simp; omega).trans (k1.symm.trans Array.length_toList.symm), fun i a u ha hu => ?_⟩
      rw [Array.getElem?_toList, k2 i] at hu
      rw [g3, List.append_assoc, List.getElem?_append, List.length_take] at ha
      simp only [Nat.add_zero, Array.length_toList] at hu
      by_cases hlt : i < q.1
      · rw [if_pos (by omega), List.getElem?_take, if_pos hlt] at ha
        rw [if_neg (by omega)] at hu
        obtain ⟨u', m1, m2⟩ := hc.at ha
        rw [Array.getElem?_toList] at m1; rw [m1] at hu; cases hu; exact m2
      · rw [if_neg (by omega), List.getElem?_append] at ha
        by_cases hlt2 : i < q.1 + p.2.cells.length
        · rw [if_pos (by omega)] at ha
          rw [if_pos (by omega)] at hu
          rw [show i - min q.1 cs.length = i - q.1 by omega] at ha
          obtain ⟨u', m1, m2⟩ := e3.at ha
          rw [m1] at hu; cases hu; exact m2
        · rw [if_neg (by omega), List.getElem?_drop] at ha
          rw [if_neg (by omega)] at hu
          rw [show q.1 + p.2.cells.length + (i - min q.1 cs.length - p.2.cells.length) = i by omega] at ha
          obtain ⟨u', m1, m2⟩ := hc.at ha
          rw [Array.getElem?_toList] at m1; rw [m1] at hu; cases hu; exact m2
    obtain ⟨ccs', n1, n2⟩ := fill_ok hp ps ps' (by simpa using hl) (fun i a x ha hx => hv (i + 1) a x (by simpa using ha) (by simpa using hx)) h3 hnew
    refine ⟨ccs', ?_, n2⟩
    have hsz := beq_t.1 h1
    simp only [Instr.fill, hp _ _ hq]
    rw [if_neg (by simp; omega)]
    exact n1

omit [Th] in
theorem placesOf_eq : ∀ {l : List Field} {pl : List (Nat × Nat)}, placesOf P l = some pl → l.mapM (fun f => (P.info? f.type).map fun i => (f.offset, i.size)) = some pl
  | [], pl, hh => by simp only [placesOf, Option.some.injEq] at hh; subst hh; rfl
  | f :: l, pl, hh => by
    have h' : ob (tsize P f.type) (fun n => ob (placesOf P l) fun r => some ((f.offset, n) :: r)) = some pl := hh
    simp only [ob_eq, Option.some.injEq] at h'
    obtain ⟨n, hn, r, hr, rfl⟩ := h'
    obtain ⟨i, h1, rfl⟩ := tsize_eq hn
    simp [List.mapM_cons, h1, placesOf_eq hr]

theorem op_build {t : TypeId} {ps : Array (Nat × Operand)} (ho : o.op = .build t ps) (s : Sim β h w) (hε : ∀ x v, ε x = some v → VR β v (η x)) (he : e_build t ps P X ε h = some r) : OpOk P η o β h w r := by
  simp only [e_build, ob_eq, retV, Option.some.injEq] at he
  obtain ⟨z, hz, q, hq, d, hd, v, hv, rfl⟩ := he
  obtain ⟨i, zv, h1, h2, h3⟩ := tzero_eq hz
  have hz' := ofVals_VR β _ _ h3
  obtain ⟨g1, g2⟩ := evParts_ok hε hq
  have hps : ∀ (j : Nat) a x, q[j]? = some a → ((ps.map fun (x : Nat × Operand) => (x.1, η x.2)).toList)[j]? = some x → a.1 = x.1 ∧ VR β a.2 x.2 := by
    intro j a x ha hx
    rw [Array.getElem?_toList, Array.getElem?_map] at hx
    cases hj : ps[j]? with
    | none => rw [hj] at hx; cases hx
    | some y =>
      rw [hj] at hx; simp only [Option.map_some, Option.some.injEq] at hx; subst hx
      exact g2 j a y ha (by rw [Array.getElem?_toList]; exact hj)
  have hlen : q.length = ((ps.map fun (x : Nat × Operand) => (x.1, η x.2)).toList).length := by simp [g1]
  unfold buildD at hv
  cases d <;> simp only [reduceCtorEq] at hv
  · rename_i n e
    simp only [ob_eq, Option.some.injEq] at hv
    obtain ⟨m, hm, c, hc, rfl⟩ := hv
    obtain ⟨ccs, k1, k2⟩ := fill_ok (place' := fun i => some (i * m, m)) (fun i q hq => hq) q _ hlen hps hc hz'
    refine .plain s (cv := .agg ccs) ?_ (by simp only [VR]; exact ⟨_, rfl, k2⟩)
    rw [Array.toList_map] at k1
    simp [execOp, ho, Instr.build, run_zeroValue' h1 h2, run_underlying hd, run_sizeOf' hm, k1]
  · rename_i fs
    simp only [ob_eq, Option.some.injEq] at hv
    obtain ⟨pl, hpl, c, hc, rfl⟩ := hv
    obtain ⟨ccs, k1, k2⟩ := fill_ok (place' := fun i => pl.toArray[i]?) (fun i q hq => by rw [nth_eq] at hq; simpa using hq) q _ hlen hps hc hz'
    have hpl' := run_places (P := P) w _ _ (placesOf_eq hpl)
    refine .plain s (cv := .agg ccs) ?_ (by simp only [VR]; exact ⟨_, rfl, k2⟩)
    have hm : (fs.mapM fun f => (do pure (f.offset, ← sizeOf f.type) : Sem (Nat × Nat))).run P w = .ok pl.toArray w := by
      rw [Array.mapM_eq_mapM_toList, Sem.run_map]
      have : (fs.toList.mapM fun f => (do pure (f.offset, ← sizeOf f.type) : Sem (Nat × Nat))) = fs.toList.mapM fun f => Prod.mk f.offset <$> sizeOf f.type := by
        congr 1
      rw [this, hpl']; rfl
    rw [Array.toList_map] at k1
    simp only [execOp, ho, Instr.build, Sem.run_bind, run_zeroValue' h1 h2, run_underlying hd, Result.andThen_ok, hm, Array.toList_map, k1]
    rfl

omit [Th] in
theorem repl_len (z : List AV) : ∀ n, (repl z n).length = n * z.length
  | 0 => by show ([] : List AV).length = _; simp
  | n + 1 => by
    show (z ++ repl z n).length = _
    rw [List.length_append, repl_len z n, Nat.succ_mul]; omega

theorem repl_VRs {z : List AV} {zs : Array Value} (hz : VRs β z zs.toList) (h0 : z.length ≠ 0) : ∀ n, VRs β (repl z n) ((Array.range (n * z.length)).map (zs[· % zs.size]!)).toList := by
  intro n
  have hlen := hz.len
  simp only [Array.length_toList] at hlen
  induction n with
  | zero => show VRs β [] _; simp [VRs]
  | succ n ih =>
    have e : ((Array.range ((n + 1) * z.length)).map (zs[· % zs.size]!)).toList = zs.toList ++ ((Array.range (n * z.length)).map (zs[· % zs.size]!)).toList := by
      apply List.ext_getElem?
      intro i
      rw [Array.getElem?_toList, Array.getElem?_map, List.getElem?_append, Array.getElem?_toList, Array.getElem?_toList, Array.getElem?_map, Array.getElem?_range, Array.getElem?_range]
      simp only [Array.length_toList]
      by_cases hi : i < zs.size
      · rw [if_pos hi, if_pos (by rw [Nat.succ_mul]; omega)]
        simp [Nat.mod_eq_of_lt hi, hi]
      · rw [if_neg hi]
        by_cases hi2 : i < (n + 1) * z.length
        · rw [if_pos hi2, if_pos (by rw [Nat.succ_mul] at hi2; omega)]
          simp only [Option.map_some]
          congr 2
          rw [show i = (i - zs.size) + zs.size by omega, Nat.add_mod_right]
          simp
        · rw [if_neg hi2, if_neg (by rw [Nat.succ_mul] at hi2; omega)]
    rw [e]
    exact hz.app ih

theorem newCells_ok (s : Sim β h w) {cs : List AV} {ccs : Array Value} {rest : Array Value} {e : TypeId} (hc : VRs β cs ccs.toList) {n c cc es : Nat} {ex : Bool} (h1 : n ≤ c) (h2 : c ≤ cc) (h3 : ex = true → cc = c) (h4 : cc * es ≤ ccs.size + rest.size) (pl : Bool := true) :
    ∃ β' w', w' = w.alloc (.cells (ccs ++ rest) e) ∧ Sim β' (h.new (.cells cs pl)) w' ∧ Kept β h w β' (h.new (.cells cs pl)) w' ∧ VR β' (.sl h.next 0 n c es ex) (.slice (some ⟨w.heap.size, 0, none⟩) n cc) := by
  obtain ⟨m1, m2⟩ := s.make (.cells cs pl) (.cells (ccs ++ rest) e) 0 (ccs ++ rest).size (fun β' w' hb hn hw =>
    ⟨w.heap.size, 0, _, ccs ++ rest, e, (0, 0), hn, hw, rfl, by simp, by simp, by have := hc.len; simp at this ⊢; omega, fun j v hj => by
      obtain ⟨u, g1, g2⟩ := (VRs.mono hb _ _ hc).at hj
      rw [Array.getElem?_toList] at g1
      refine ⟨u, ?_, g2⟩
      rw [Nat.zero_add, Array.getElem?_append, if_pos ?_]
      · exact g1
      · rcases Nat.lt_or_ge j ccs.size with hh | hh
        · exact hh
        · rw [Array.getElem?_eq_none hh] at g1; cases g1⟩)
  refine ⟨_, _, rfl, m1, m2, ?_⟩
  simp only [VR]
  exact ⟨_, _, _, cc, Bet.put_same .., rfl, h1, h2, h3, by simp only [Array.size_append]; omega⟩

theorem op_buildSlice {t : TypeId} {len : Nat} {ps : Array (Nat × Operand)} (ho : o.op = .buildSlice t len ps) (s : Sim β h w) (hε : ∀ x v, ε x = some v → VR β v (η x)) (he : e_buildSlice t len ps P X ε h = some r) : OpOk P η o β h w r := by
  simp only [e_buildSlice, ob_eq, bc_none, newSl, Option.some.injEq] at he
  obtain ⟨e, ht, i, hi, q, hq, hle, cs, hcs, rfl⟩ := he
  obtain ⟨inf, z, h1, h2, _, h4, h5, h6, h7⟩ := elemInfo_eq hi
  have ht' := telem_eq ht
  have hz := ofVals_VR β _ _ h5
  have hn : tsize P e = some i.1 := by unfold tsize; rw [h1]; simp [h2]
  obtain ⟨g1, g2⟩ := evParts_ok hε hq
  have hps : ∀ (j : Nat) a x, q[j]? = some a → ((ps.map fun (x : Nat × Operand) => (x.1, η x.2)).toList)[j]? = some x → a.1 = x.1 ∧ VR β a.2 x.2 := by
    intro j a x ha hx
    rw [Array.getElem?_toList, Array.getElem?_map] at hx
    cases hj : ps[j]? with
    | none => rw [hj] at hx; cases hx
    | some y =>
      rw [hj] at hx; simp only [Option.map_some, Option.some.injEq] at hx; subst hx
      exact g2 j a y ha (by rw [Array.getElem?_toList]; exact hj)
  have hlen : q.length = ((ps.map fun (x : Nat × Operand) => (x.1, η x.2)).toList).length := by simp [g1]
  have hrep := repl_VRs hz (by omega) len
  rw [h7] at hrep
  have hzz : VRs β (repl i.2.2 len) ((Array.range (len * i.1)).map ((if len * i.1 = 0 then #[] else z.cells)[· % (if len * i.1 = 0 then #[] else z.cells).size]!)).toList := by
    by_cases h0 : len * i.1 = 0
    · have : len = 0 := by rcases Nat.mul_eq_zero.1 h0 with h | h; exact h; exact absurd h h6
      subst this; show VRs β [] _; simp [VRs]
    · rw [if_neg h0]; exact hrep
  obtain ⟨ccs, k1, k2⟩ := fill_ok (place' := fun j => some (j * i.1, i.1)) (fun i q hq => hq) q _ hlen hps hcs hzz
  have hsz : ccs.size = len * i.1 := by
    have a1 := k2.len
    have a2 : ∀ (ps : List (Nat × AV)) {a b : List AV}, fillParts (fun j => some (Nat.mul j i.1, i.1)) ps a = some b → b.length = a.length := by
      intro ps
      induction ps with
      | nil => intro a b hh; simp only [fillParts, Option.some.injEq] at hh; rw [hh]
      | cons p ps ih =>
        intro a b hh
        have hf' : ob (some (Nat.mul p.1 i.1, i.1)) (fun q => bc (Nat.beq p.2.cells.length q.2) (ob (setRange a q.1 p.2.cells) fun cells => fillParts (fun j => some (Nat.mul j i.1, i.1)) ps cells) none) = some b := hh
        simp only [ob_eq, bc_none] at hf'
        obtain ⟨q, _, _, c2, h2, h3⟩ := hf'
        obtain ⟨g1, g2, g3⟩ := setRange_eq a h2
        rw [ih h3, g3]; simp; omega
    rw [a2 _ hcs, repl_len, h7] at a1
    simp at a1; omega
  obtain ⟨β', w', e1, m1, m2, m3⟩ := newCells_ok (ex := true) (rest := #[]) (e := e) s k2 (Nat.le_refl len) (Nat.le_refl len) (fun _ => rfl) (es := i.1) (by simp; omega)
  refine ⟨β', w', m1, m2, .inl ⟨_, ?_, m3⟩⟩
  have hle' := ble_t.1 hle
  have hle2 : len * i.1 ≤ 16777216 := hle'
  subst e1
  simp only [execOp, ho, Instr.buildSlice, Sem.run_bind, run_underlying ht', Result.andThen_ok, run_sizeOf' hn]
  rw [if_neg (by omega)]
  by_cases h0 : len * i.1 = 0
  · simp only [if_pos h0] at k1 ⊢
    simp only [Sem.run_bind, Sem.run_pure, Result.andThen_ok, k1]
    simp [newRow]
  · simp only [if_neg h0] at k1 ⊢
    simp only [Sem.run_bind, run_zeroValue' h1 h4, Sem.run_pure, Result.andThen_ok, k1]
    simp [newRow]

end Go.Ab
