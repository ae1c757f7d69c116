/- Each operation of the evaluator stands for the model's: the built-in functions. -/
import Derived.Test.YtleafkdgnlngmaaGreatDoorAbOps7
set_option linter.unusedVariables false
set_option linter.unusedSimpArgs false
namespace Go.Ab
open Go
variable [Th]
variable {P : Program} {X : Ext} {η : Operand → Value} {ε : Env} {o : Oper} {β : Bet} {h : H} {w : World} {r : R}

/-- what the evaluator says of a computation holds of the model's -/
def SemOk (P : Program) (S : Sem Value) (β : Bet) (h : H) (w : World) : R → Prop
  | .val v h' => ∃ β' w', Sim β' h' w' ∧ Kept β h w β' h' w' ∧ ∃ cv, S.run P w = .ok cv w' ∧ VR β' v cv
  | .call _ _ _ => False

theorem SemOk.plain {S : Sem Value} (s : Sim β h w) {v : AV} {cv : Value} (hr : S.run P w = .ok cv w) (hv : VR β v cv) : SemOk P S β h w (.val v h) :=
  ⟨β, w, s, Kept.refl .., cv, hr, hv⟩

omit [Th] in
theorem one1_eq {l : List AV} {k : AV → Option R} (hh : one1 l k = some r) : ∃ a, l = [a] ∧ k a = some r := by
  cases l with
  | nil => cases hh
  | cons a l => cases l with
    | nil => exact ⟨a, rfl, hh⟩
    | cons b l => cases hh

omit [Th] in
theorem two2_eq {l : List AV} {k : AV → AV → Option R} (hh : two2 l k = some r) : ∃ a b, l = [a, b] ∧ k a b = some r := by
  cases l with
  | nil => cases hh
  | cons a l => cases l with
    | nil => cases hh
    | cons b l => cases l with
      | nil => exact ⟨a, b, rfl, hh⟩
      | cons c l => cases hh

theorem VRs1 {a : AV} {vs : Array Value} (hh : VRs β [a] vs.toList) : ∃ v, vs = #[v] ∧ VR β a v := by
  simp only [VRs] at hh
  obtain ⟨v, vs', e, h1, rfl⟩ := hh
  exact ⟨v, Array.ext' (by rw [e]), h1⟩
theorem VRs2 {a b : AV} {vs : Array Value} (hh : VRs β [a, b] vs.toList) : ∃ v u, vs = #[v, u] ∧ VR β a v ∧ VR β b u := by
  simp only [VRs] at hh
  obtain ⟨v, vs', e, h1, u, vs2, rfl, h2, rfl⟩ := hh
  exact ⟨v, u, Array.ext' (by rw [e]), h1, h2⟩

theorem lenOf_ok {x : AV} {n : Nat} (hl : lenOf x = some n) {v : Value} (hv : VR β x v) : (Builtin.lenOf v).run P w = .ok n w ∧ (asStr x = none → ∃ p c, v = .slice p n c) := by
  cases x <;> simp only [lenOf, reduceCtorEq, Option.some.injEq] at hl
  · subst hl; have e := hv.str; subst e
    exact ⟨rfl, fun e => by cases e⟩
  · subst hl; have e : v = .slice none 0 0 := hv; subst e
    exact ⟨rfl, fun _ => ⟨_, _, rfl⟩⟩
  · subst hl; obtain ⟨cb, base, sz, cc, hβ, e, _⟩ := hv.sl; subst e
    exact ⟨rfl, fun _ => ⟨_, _, rfl⟩⟩
  · subst hl; obtain ⟨a, c, e⟩ := hv; subst e
    exact ⟨rfl, fun _ => ⟨_, _, rfl⟩⟩

theorem b_len {ts : Array TypeId} {ty : TypeId} {args : List AV} {vs : Array Value} (s : Sim β h w) (hv : VRs β args vs.toList) (he : x_len P h ts args = some r) : SemOk P (Builtin.len_ ts ty vs) β h w r := by
  simp only [x_len, t0, ob_eq, nth_eq, Array.getElem?_toList] at he
  obtain ⟨t, ht, d, hd, he⟩ := he
  obtain ⟨x, ex1, he1⟩ := one1_eq he
  subst ex1
  replace he := he1
  clear he1
  obtain ⟨v, ev1, hv1⟩ := VRs1 hv
  subst ev1
  replace hv := hv1
  clear hv1
  unfold lenD at he
  cases d <;> simp only [reduceCtorEq, retV, ob_eq, bc_some, Option.some.injEq] at he
  · obtain ⟨q, hq, rfl⟩ := he
    have := asStr_eq hq
    subst this
    have e := hv.str
    subst e
    refine .plain s (cv := goInt q.length) ?_ rfl
    simp only [Builtin.len_, ht]
    simp [run_underlying hd]; rfl
  · rename_i a
    obtain ⟨d2, hd2, he⟩ := he
    cases d2 <;> simp only [reduceCtorEq, Option.some.injEq] at he
    subst he
    rename_i n e
    refine .plain s (cv := goInt n) ?_ rfl
    simp only [Builtin.len_, ht]
    simp [run_underlying hd, run_underlying hd2]
  · obtain ⟨hs, n, hn, rfl⟩ := he
    have hs' : asStr x = none := by cases hh : asStr x with | none => rfl | some _ => rw [hh] at hs; cases hs
    obtain ⟨p, c, e⟩ := (lenOf_ok (P := P) (w := w) hn hv).2 hs'
    subst e
    refine .plain s (cv := goInt n) ?_ rfl
    simp only [Builtin.len_, ht]
    simp [run_underlying hd]
  · subst he
    rename_i n e
    refine .plain s (cv := goInt n) ?_ rfl
    simp only [Builtin.len_, ht]
    simp [run_underlying hd]

theorem b_cap {ts : Array TypeId} {ty : TypeId} {args : List AV} {vs : Array Value} (s : Sim β h w) (hv : VRs β args vs.toList) (he : x_cap P h ts args = some r) : SemOk P (Builtin.cap_ ts ty vs) β h w r := by
  simp only [x_cap, t0, ob_eq, nth_eq, Array.getElem?_toList] at he
  obtain ⟨t, ht, e, hte, he⟩ := he
  have hd := telem_eq hte
  obtain ⟨x, ex1, he1⟩ := one1_eq he
  subst ex1
  replace he := he1
  clear he1
  obtain ⟨v, ev1, hv1⟩ := VRs1 hv
  subst ev1
  replace hv := hv1
  clear hv1
  cases x <;> simp only [capV, reduceCtorEq, retV, bc_none, Option.some.injEq] at he
  · subst he
    have e : v = .slice none 0 0 := hv
    subst e
    refine .plain s (cv := goInt 0) ?_ rfl
    simp only [Builtin.cap_, ht]
    simp [run_underlying hd]
  · obtain ⟨hex, rfl⟩ := he
    obtain ⟨cb, base, sz, cc, hβ, e, h1, h2, h3, h4⟩ := hv.sl
    subst e
    have := h3 hex
    subst this
    refine .plain s (cv := goInt _) ?_ rfl
    simp only [Builtin.cap_, ht]
    simp [run_underlying hd]

theorem b_min {ts : Array TypeId} {ty : TypeId} {args : List AV} {vs : Array Value} (s : Sim β h w) (hv : VRs β args vs.toList) (he : x_min P h ts args = some r) : SemOk P (Builtin.min_ ts ty vs) β h w r := by
  obtain ⟨x, y, ex1, he1⟩ := two2_eq he
  subst ex1
  replace he := he1
  clear he1
  obtain ⟨u, v, ev1, hu, hv1⟩ := VRs2 hv
  subst ev1
  replace hv := hv1
  clear hv1
  simp only [min2, ob_eq, bc_none, retV, Option.some.injEq] at he
  obtain ⟨a, ha, b, hb, h1, rfl⟩ := he
  have := keyOf_eq ha; subst this
  have := keyOf_eq hb; subst this
  have e1 := hu.int
  have e2 := hv.int
  subst e1; subst e2
  refine .plain s (cv := .int a.1 (if b.2 < a.2 then b.2 else a.2)) (by simp [Builtin.min_, Builtin.min2]) ?_
  show _ = _
  rw [bc_ite, leI_eq]
  congr 1
  by_cases hh : a.2 ≤ b.2
  · simp only [hh, decide_true, if_true]; rw [if_neg (by omega)]
  · simp only [hh, decide_false]; rw [if_pos (by omega)]; rfl

theorem b_max {ts : Array TypeId} {ty : TypeId} {args : List AV} {vs : Array Value} (s : Sim β h w) (hv : VRs β args vs.toList) (he : x_max P h ts args = some r) : SemOk P (Builtin.max_ ts ty vs) β h w r := by
  obtain ⟨x, y, ex1, he1⟩ := two2_eq he
  subst ex1
  replace he := he1
  clear he1
  obtain ⟨u, v, ev1, hu, hv1⟩ := VRs2 hv
  subst ev1
  replace hv := hv1
  clear hv1
  simp only [max2, ob_eq, bc_none, retV, Option.some.injEq] at he
  obtain ⟨a, ha, b, hb, h1, rfl⟩ := he
  have := keyOf_eq ha; subst this
  have := keyOf_eq hb; subst this
  have e1 := hu.int
  have e2 := hv.int
  subst e1; subst e2
  refine .plain s (cv := .int a.1 (if b.2 > a.2 then b.2 else a.2)) (by simp [Builtin.max_, Builtin.max2]) ?_
  show _ = _
  rw [bc_ite, leI_eq]
  congr 1
  by_cases hh : b.2 ≤ a.2
  · simp only [hh, decide_true, if_true]; rw [if_neg (by omega)]
  · simp only [hh, decide_false]; rw [if_pos (by omega)]; rfl

theorem zeroCells_eq {z : List AV} {zs : Array Value} (hz : VRs β z zs.toList) (h0 : z.length ≠ 0) (n : Nat) : VRs β (repl z n) (Builtin.zeroCells zs n).toList := by
  have hlen := hz.len
  simp only [Array.length_toList] at hlen
  have := repl_VRs hz h0 n
  rw [hlen] at this
  exact this

theorem b_clear {ts : Array TypeId} {ty : TypeId} {args : List AV} {vs : Array Value} (s : Sim β h w) (hv : VRs β args vs.toList) (he : x_clear P h ts args = some r) : SemOk P (Builtin.clear_ ts ty vs) β h w r := by
  simp only [x_clear, t0, ob_eq, nth_eq, Array.getElem?_toList] at he
  obtain ⟨t, ht, e, hte, i, hi, he⟩ := he
  have hd := telem_eq hte
  obtain ⟨inf, z, g1, g2, g3, g4, g5, g6, g7⟩ := elemInfo_eq hi
  have hz := ofVals_VR β _ _ g5
  obtain ⟨x, ex1, he1⟩ := one1_eq he
  subst ex1
  replace he := he1
  clear he1
  obtain ⟨v, ev1, hv1⟩ := VRs1 hv
  subst ev1
  replace hv := hv1
  clear hv1
  cases x <;> simp only [clearV, reduceCtorEq, retV, bc_none, ob_eq, Option.some.injEq] at he
  · subst he
    have e : v = .slice none 0 0 := hv
    subst e
    refine .plain s (cv := .tuple #[]) ?_ (by simp only [undef, VR, VRs]; exact ⟨_, rfl, rfl⟩)
    simp only [Builtin.clear_, ht]
    simp [run_underlying hd]
  · rename_i b p n cap es ex
    obtain ⟨h1, h', hs, rfl⟩ := he
    have := beq_t.1 h1
    subst this
    obtain ⟨cb, base, sz, cc, hβ, e, k1, k2, k3, k4⟩ := hv.sl
    subst e
    obtain ⟨m1, m2, m3⟩ := storeCells_ok (P := P) s hs (zeroCells_eq hz (by omega) n) hβ
    refine ⟨_, _, m2, m3, .tuple #[], ?_, by simp only [undef, VR, VRs]; exact ⟨_, rfl, rfl⟩⟩
    simp only [Builtin.clear_, ht]
    cases n with
    | zero =>
      have hw : w.setCells cb (base + p) (Builtin.zeroCells z.cells 0).toList = w := by simp [Builtin.zeroCells, World.setCells, Array.range_zero']
      rw [hw]
      simp [run_underlying hd]
    | succ n =>
      simp only [List.getElem?_toArray, List.getElem?_cons_zero, Sem.run_bind, run_underlying hd, Result.andThen_ok, run_zeroValue' g1 g4, m1, Sem.run_pure]
  · subst he
    obtain ⟨a, c, e⟩ := hv
    subst e
    refine .plain s (cv := .tuple #[]) ?_ (by simp only [undef, VR, VRs]; exact ⟨_, rfl, rfl⟩)
    simp only [Builtin.clear_, ht]
    simp [run_underlying hd]

theorem firstCells_ok (s : Sim β h w) {es n : Nat} {x : AV} {l : List AV} (hf : firstCells h es n x = some l) {v : Value} (hv : VR β x v) (hes : es ≠ 0) (hn : x = .nils → n = 0) {w' : World} (hw : w'.heap = w.heap) :
    ∃ cs : Array Value, VRs β l cs.toList ∧ (Builtin.firstCells es n v).run P w' = .ok cs w' := by
  cases x <;> simp only [firstCells, reduceCtorEq, bc_none, ob_eq, Option.some.injEq] at hf
  · rename_i q
    obtain ⟨h1, q', hq, rfl⟩ := hf
    have := beq_t.1 h1
    subst this
    rw [takeN_eq] at hq
    split at hq
    · rename_i hle
      simp only [Option.some.injEq] at hq
      subst hq
      have e := hv.str
      subst e
      refine ⟨((q.take n).map fun b => Value.int .u8 (b.toNat : Int)).toArray, by rw [byteCells_eq]; exact VRs_of_bytes _, ?_⟩
      simp only [Builtin.firstCells, Sem.run_pure]
      congr 1
      apply Array.ext'
      rw [Array.toList_map, ByteArray.data_extract, Array.toList_extract]
      show ((q.drop 0).take (n - 0)).map _ = _
      simp
    · cases hq
  · subst hf
    have e : v = .slice none 0 0 := hv
    subst e
    exact ⟨#[], rfl, by simp [Builtin.firstCells]⟩
  · rename_i b p len cap e ex
    obtain ⟨h1, hl⟩ := hf
    have := beq_t.1 h1
    subst this
    obtain ⟨cb, base, sz, cc, hβ, ev, k1, k2, k3, k4⟩ := hv.sl
    subst ev
    obtain ⟨us, g1, g2, _, g3⟩ := s.cellsAt hl hβ
    refine ⟨us.toArray, g2, ?_⟩
    have hr := run_loadCells_list (P := P) w' ⟨cb, base + p, none⟩ us (fun j u hj => by
      rw [Addr_add]
      have := g3 j u hj
      simp only [World.cell?, hw] at this ⊢
      exact this)
    rw [g1] at hr
    exact hr
  · obtain ⟨h1, rfl⟩ := hf
    have := beq_t.1 h1
    subst this
    obtain ⟨a, c, e⟩ := hv
    subst e
    refine ⟨#[], rfl, ?_⟩
    show (Go.loadCells a (0 * es)).run P w' = _
    rw [Nat.zero_mul]
    rfl

theorem b_copy {ts : Array TypeId} {ty : TypeId} {args : List AV} {vs : Array Value} (s : Sim β h w) (hv : VRs β args vs.toList) (he : x_copy P h ts args = some r) : SemOk P (Builtin.copy_ ts ty vs) β h w r := by
  simp only [x_copy, t0, ob_eq, nth_eq, Array.getElem?_toList] at he
  obtain ⟨t, ht, e, hte, sz0, hsz, he⟩ := he
  have hd := telem_eq hte
  obtain ⟨d, x, ex1, he1⟩ := two2_eq he
  subst ex1
  replace he := he1
  clear he1
  obtain ⟨u, v, ev1, hu, hv1⟩ := VRs2 hv
  subst ev1
  replace hv := hv1
  clear hv1
  simp only [bc_some, ob_eq] at he
  obtain ⟨h0, m, hm, n, hn, cs, hcs, he⟩ := he
  have h0' := beq_f.1 h0
  have hmin : minN m n = Nat.min m n := by
    unfold minN; rw [bc_ite]; simp only [ble_t]; show _ = min m n; split <;> omega
  rw [hmin] at hcs he
  have hxn : x = .nils → Nat.min m n = 0 := by
    intro e; subst e; simp only [lenOf, Option.some.injEq] at hm; subst hm; exact Nat.zero_min n
  obtain ⟨ccs, k1, k2⟩ := firstCells_ok (P := P) s hcs hv h0' hxn (w' := w) rfl
  have hlm := (lenOf_ok (P := P) (w := w) hm hv).1
  cases d <;> simp only [copyTo, reduceCtorEq, retV, bc_none, ob_eq, Option.some.injEq] at he
  · subst he
    have e1 : u = .slice none 0 0 := hu
    subst e1
    simp only [lenOf, Option.some.injEq] at hn
    subst hn
    refine .plain s (cv := goInt 0) ?_ rfl
    simp only [Builtin.copy_, ht]
    have e2 : Nat.min m 0 = 0 := Nat.min_zero m
    rw [e2] at k2
    simp [run_underlying hd, hlm, run_sizeOf' hsz, e2, k2]
  · rename_i b p len cap es ex
    obtain ⟨h1, h', hs, rfl⟩ := he
    have := beq_t.1 h1
    subst this
    simp only [lenOf, Option.some.injEq] at hn
    subst hn
    obtain ⟨cb, base, sz, cc, hβ, ev, q1, q2, q3, q4⟩ := hu.sl
    subst ev
    obtain ⟨m1, m2, m3⟩ := storeCells_ok (P := P) s hs k1 hβ
    refine ⟨_, _, m2, m3, goInt (Nat.min m len), ?_, rfl⟩
    simp only [Builtin.copy_, ht]
    simp only [List.getElem?_toArray, List.getElem?_cons_zero, List.getElem?_cons_succ, Sem.run_bind, run_underlying hd, Result.andThen_ok, hlm, run_sizeOf' hsz, k2, m1, Sem.run_pure]
  · subst he
    obtain ⟨a, c, e1⟩ := hu
    subst e1
    simp only [lenOf, Option.some.injEq] at hn
    subst hn
    refine .plain s (cv := goInt 0) ?_ rfl
    have e2 : Nat.min m 0 = 0 := Nat.min_zero m
    have hl0 : cs = [] := by
      rw [e2] at hcs
      cases x <;> simp only [firstCells, reduceCtorEq, bc_none, ob_eq, Option.some.injEq] at hcs
      · obtain ⟨_, q', hq, rfl⟩ := hcs
        simp [takeN_eq] at hq; subst hq; rfl
      · exact hcs.symm
      · obtain ⟨_, hl⟩ := hcs
        unfold Go.Ab.loadCells at hl
        simp only [ob_eq] at hl
        obtain ⟨_, _, _, _, hq⟩ := hl
        have : Nat.mul 0 sz0 = 0 := Nat.zero_mul _
        rw [this] at hq
        simp [takeN_eq] at hq; first | exact hq.symm | exact hq
      · exact hcs.2.symm
    subst hl0
    have hccs : ccs = #[] := Array.ext' k1
    subst hccs
    simp only [Builtin.copy_, ht]
    rw [e2] at k2
    simp [run_underlying hd, hlm, run_sizeOf' hsz, e2, k2, Go.storeCells]

end Go.Ab
