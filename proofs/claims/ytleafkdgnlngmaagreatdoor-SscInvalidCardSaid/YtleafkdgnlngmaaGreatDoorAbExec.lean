/- Every operation of the evaluator stands for the model's. -/
import Derived.Test.YtleafkdgnlngmaaGreatDoorAbOps9
namespace Go.Ab
open Go
variable [Th]
variable {P : Program} {X : Ext} {η : Operand → Value} {ε : Env} {o : Oper} {β : Bet} {h : H} {w : World} {r : R}

theorem callF_ok (hP : POk P) (hX : XOk P X) (s : Sim β h w) {f : FuncId} {args : List AV} {vs : Array Value} (hv : VRs β args vs.toList) (he : callF P X f args h = some r) (hrun : (execOp η o).run P w = (callFunc f vs).run P w) : OpOk P η o β h w r := by
  simp only [callF, ob_eq] at he
  obtain ⟨fn, hf, he⟩ := he
  cases hb : fn.body with
  | none =>
    rw [hb] at he
    simp only [ob_eq, retV, Option.some.injEq] at he
    obtain ⟨p, hp, rfl⟩ := he
    obtain ⟨cv, β', w', h1, h2, h3, h4⟩ := hX.fn f fn hf hb args h p.1 p.2 hp β w vs s hv
    exact ⟨β', w', h3, h4, .inl ⟨cv, by rw [hrun, h1], h2⟩⟩
  | some body =>
    rw [hb] at he
    simp only [Option.some.injEq] at he
    subst he
    refine ⟨rfl, vs, ?_, hv⟩
    rw [hrun]
    have hn := hP.names f fn hf (by rw [hb]; rfl)
    have hn' : ¬ fn.name = "runtime.NumGoroutine" := by simpa using hn
    simp [callFunc, hf, hn', hb]

theorem SemOk.op {S : Sem Value} (hs : SemOk P S β h w r) (hrun : (execOp η o).run P w = (S.run P w).andThen fun v w' => .ok (.value v) w') : OpOk P η o β h w r := by
  cases r with
  | val v h' =>
    obtain ⟨β', w', h1, h2, cv, h3, h4⟩ := hs
    exact ⟨β', w', h1, h2, .inl ⟨cv, by rw [hrun, h3]; rfl, h4⟩⟩
  | call f args h' => exact hs.elim

theorem op_call {c : Call} (hP : POk P) (hX : XOk P X) (ho : o.op = .call c) (s : Sim β h w) (hε : ∀ x v, ε x = some v → VR β v (η x)) (he : e_call c P X ε h = some r) : OpOk P η o β h w r := by
  simp only [e_call, ob_eq] at he
  obtain ⟨args, ha, he⟩ := he
  have hargs := evs_VRs hε ha
  obtain ⟨callee, cargs, argTypes⟩ := c
  simp only at ha hargs he
  cases callee with
  | value f =>
    have he' : ob (ε f) (fun v => ob (fnOf v) fun x => callF P X x.1 (x.2.1 ++ (args ++ x.2.2)) h) = some r := he
    simp only [ob_eq] at he'
    obtain ⟨v, hf, x, hx, he'⟩ := he'
    have := fnOf_eq hx
    subst this
    have hv := hε _ _ hf
    simp only [VR] at hv
    obtain ⟨a', b', e1, ha', hb'⟩ := hv
    refine callF_ok hP hX s (vs := a' ++ cargs.map η ++ b') ?_ he' ?_
    · simp only [Array.toList_append, Array.toList_map, List.append_assoc]
      exact ha'.app (hargs.app hb')
    · simp [execOp, ho, resolve, Deferred.ofValue, e1, invoke]
  | invoke rv name =>
    have he' : ob (ε rv) (fun v => ob (ifcOf v) fun x => ob (P.info? x.1) fun i => ob (P.underlying x.1) fun d => ob (i.methods.toList.find? (·.name == name)) fun m => invokeM P X m d x.2 args h) = some r := he
    simp only [ob_eq] at he'
    obtain ⟨v, hf, x, hx, i, hi, d, hd, m, hm, he'⟩ := he'
    have := ifcOf_eq hx
    subst this
    have hv := hε _ _ hf
    simp only [VR] at hv
    obtain ⟨a', e1, ha'⟩ := hv
    simp only [invokeM, bc_none, ob_eq] at he'
    obtain ⟨hpath, fp, hfp, he'⟩ := he'
    have hm' : i.methods.find? (fun m => m.name == name) = some m := by
      rw [← Array.find?_toList]; exact hm
    have hpe : m.path.toList = [] := by
      have : m.path = #[] := by simpa using hpath
      rw [this]
    have hext : (#[η rv] ++ cargs.map η).extract 1 (#[η rv] ++ cargs.map η).size = cargs.map η := by
      apply Array.ext'
      simp [List.take_of_length_le]
    obtain ⟨fid, ptr⟩ := fp
    have hfin : callF P X fid (x.2 :: args) h = some r ∧ ((ptr = true ∧ isPtrD d = true) ∨ (ptr = false ∧ isPtrD d = false)) := by
      cases ptr with
      | true =>
        simp only [bc_true, bc_none] at he'
        exact ⟨he'.2, .inl ⟨rfl, he'.1⟩⟩
      | false =>
        simp only [bc_false, bc_some] at he'
        exact ⟨he'.2, .inr ⟨rfl, he'.1⟩⟩
    obtain ⟨hcall, hkind⟩ := hfin
    have hmeth : (method (P.types.size + Made.depth) x.1 a' name).run P w = .ok (fid, a') w := by
      obtain ⟨n, hn⟩ : ∃ n, P.types.size + Made.depth = n + 1 := ⟨P.types.size + Made.depth - 1, by simp [Made.depth]⟩
      rw [hn]
      simp only [method, Sem.run_bind, run_typeInfo' hi, Result.andThen_ok, hm', hpe, follow, Sem.run_pure, hfp, receiverAt, run_underlying hd]
      rcases hkind with ⟨rfl, hk⟩ | ⟨rfl, hk⟩
      · cases d <;> first | (simp [isPtrD] at hk; done) | rfl | simp [Place.get] | skip
      · cases d <;> first | (simp [isPtrD] at hk; done) | rfl | simp [Place.get] | skip
    refine callF_ok hP hX s (vs := #[a'] ++ cargs.map η) ?_ hcall ?_
    · simp only [Array.toList_append, Array.toList_map]
      simp only [VRs, List.cons_append, List.nil_append]
      exact ⟨_, _, rfl, ha', hargs⟩
    · have h0 : ((#[Value.iface x.1 a'] ++ cargs.map η : Array Value))[0]? = some (Value.iface x.1 a') := by
        rw [Array.getElem?_append_left (by simp)]; rfl
      have h1 := hext
      rw [e1] at h1
      simp only [execOp, ho, resolve, Sem.run_bind, Sem.run_pure, Result.andThen_ok, invoke, e1, h0]
      simp only [h1, callMethod, Sem.run_bind, run_program, Result.andThen_ok, hmeth]
  | builtin b =>
    have he0 : orE (builtinT b P h argTypes args) (ob (X.bu b argTypes args) fun v => retV v h) = some r := he
    have hv : VRs β args (cargs.map η).toList := by rw [Array.toList_map]; exact hargs
    rcases orE_eq.1 he0 with he' | ⟨_, he'⟩
    rotate_left
    · simp only [ob_eq, retV, Option.some.injEq] at he'
      obtain ⟨v, hb, rfl⟩ := he'
      obtain ⟨cv, h1, h2⟩ := hX.bu _ _ _ _ hb β _ hv
      exact .plain s (h2 o η _ w ho rfl rfl rfl) h1
    cases b <;> simp only [builtinT, x_no, reduceCtorEq] at he'
    · exact (b_append (ty := o.type) s hv he').op (by simp [execOp, ho, resolve, invoke, builtin])
    · exact (b_cap (ty := o.type) s hv he').op (by simp [execOp, ho, resolve, invoke, builtin])
    · exact (b_clear (ty := o.type) s hv he').op (by simp [execOp, ho, resolve, invoke, builtin])
    · exact (b_copy (ty := o.type) s hv he').op (by simp [execOp, ho, resolve, invoke, builtin])
    · exact (b_delete (ty := o.type) s hv he').op (by simp [execOp, ho, resolve, invoke, builtin])
    · exact (b_len (ty := o.type) s hv he').op (by simp [execOp, ho, resolve, invoke, builtin])
    · exact (b_max (ty := o.type) s hv he').op (by simp [execOp, ho, resolve, invoke, builtin])
    · exact (b_min (ty := o.type) s hv he').op (by simp [execOp, ho, resolve, invoke, builtin])

theorem exec_ok (hP : POk P) (hX : XOk P X) (s : Sim β h w) (hε : ∀ x v, ε x = some v → VR β v (η x)) (he : exec P X ε h o.op = some r) : OpOk P η o β h w r := by
  cases ho : o.op <;> rw [ho] at he
  all_goals first
    | (cases he; done)
    | exact op_move (P := P) (X := X) (ε := ε) (.inl ho) s hε he
    | exact op_move (P := P) (X := X) (ε := ε) (.inr ho) s hε he
    | exact op_pick (P := P) (X := X) (ε := ε) ho s hε he
    | exact op_alloc (P := P) (X := X) (ε := ε) ho s he
    | exact op_box (P := P) (X := X) (ε := ε) ho s hε he
    | exact op_build (P := P) (X := X) (ε := ε) ho s hε he
    | exact op_buildSlice (P := P) (X := X) (ε := ε) ho s hε he
    | exact op_load (P := P) (X := X) (ε := ε) ho s hε he
    | exact op_store (P := P) (X := X) (ε := ε) ho s hε he
    | exact op_nilCheck (P := P) (X := X) (ε := ε) ho s hε he
    | exact op_binOp (P := P) (X := X) (ε := ε) ho hX s hε he
    | exact op_unOp (P := P) (X := X) (ε := ε) ho hX s hε he
    | exact op_convert (P := P) (X := X) (ε := ε) ho hX s hε he
    | exact op_makeInterface (P := P) (X := X) (ε := ε) ho s hε he
    | exact op_makeFunc (P := P) (X := X) (ε := ε) ho s hε he
    | exact op_makeMap (P := P) (X := X) (ε := ε) ho s he
    | exact op_makeSlice (P := P) (X := X) (ε := ε) ho s hε he
    | exact op_slice (P := P) (X := X) (ε := ε) ho s hε he
    | exact op_fieldAddr (P := P) (X := X) (ε := ε) ho s hε he
    | exact op_field (P := P) (X := X) (ε := ε) ho s hε he
    | exact op_indexAddr (P := P) (X := X) (ε := ε) ho s hε he
    | exact op_index (P := P) (X := X) (ε := ε) ho s hε he
    | exact op_lookup (P := P) (X := X) (ε := ε) ho s hε he
    | exact op_mapUpdate (P := P) (X := X) (ε := ε) ho s hε he
    | exact op_range (P := P) (X := X) (ε := ε) ho s hε he
    | exact op_next (P := P) (X := X) (ε := ε) ho s hε he
    | exact op_typeAssert (P := P) (X := X) (ε := ε) ho s hε he
    | exact op_extract (P := P) (X := X) (ε := ε) ho s hε he
    | exact op_call (P := P) (X := X) (ε := ε) hP hX ho s hε he

end Go.Ab
