/- Closed calls at whatever heap; the library's own new bytes; a region that draws its order and only reads; a slice of the call's own that grows. -/
import Derived.Test.YtleafkdgnlngmaaGreatDoorAbSym
import Derived.Lib.MakeNoZero
import Derived.Laws.Externs
set_option linter.unusedVariables false
set_option linter.unusedSimpArgs false
namespace Go.Ab
open Go
variable [Th]
variable {P : Program} {X : Ext} {S : Specs} {β : Bet} {h : H} {w : World}

/-- a call that was followed over an empty heap, at whatever heap: it leaves all as it is -/
theorem ACall.closed {f : FuncId} {args : List AV} {v : AV} (hc : ACall P f args ⟨P.globals.size, .e⟩ fun v' _ => v' = v)
    (ha : ∀ (β β' : Bet) c, VRs β args c → VRs β' args c) (hv : ∀ (β β' : Bet) c, VR β v c → VR β' v c) : ACall P f args h fun v' h' => v' = v ∧ h' = h := by
  intro β w cargs g s hva
  classical
  have g0 : GOk P (fun b => if b < P.globals.size then β b else none) := fun i hi => by
    obtain ⟨sz, e⟩ := g i hi
    exact ⟨sz, by simp only [hi, if_true]; exact e⟩
  have s0 : Sim (fun b => if b < P.globals.size then β b else none) ⟨P.globals.size, .e⟩ w := by
    refine ⟨fun b o hb => ?_, fun b b' o o' r r' hb => ?_, fun b hb => ?_⟩
    · have : (Tr.e : Tr AObj).get b = some o := hb
      rw [Tr.get_e] at this; cases this
    · have : (Tr.e : Tr AObj).get b = some o := hb
      rw [Tr.get_e] at this; cases this
    · have : ¬ b < P.globals.size := Nat.not_lt.2 hb
      simp only [this, if_false]
  refine (hc _ w cargs g0 s0 (ha _ _ _ hva)).mono ?_
  rintro e w' ⟨v', h1, β1, cv, rfl, e1, hv', s1, k1⟩
  have hold : ∀ k, k < w.heap.size → w'.heap[k]? = w.heap[k]? := fun k hk => k1.old k hk fun b o r hb => by
    have : (Tr.e : Tr AObj).get b = some o := hb
    rw [Tr.get_e] at this; cases this
  refine ⟨v', h, β, cv, ⟨rfl, rfl⟩, e1, hv _ _ _ hv', ⟨fun b o hb => ?_, s.inj, s.fresh⟩, ⟨k1.size, fun _ _ x => x, fun _ _ x => .inl x, Nat.le_refl _, fun k hk _ => hold k hk, fun b o r h1 h2 => .inl ⟨b, o, r, h1, h2, rfl⟩, k1.os, k1.tape, k1.output⟩⟩
  obtain ⟨r, hr, hlt⟩ := s.bet hb
  exact ObjR.turn (fun _ _ x => x) (fun r' hr' => by rw [hr] at hr'; cases hr'; exact hold _ hlt) (s.obj b o hb)

/-! what the library's MakeNoZero gives: whatever bytes -/
noncomputable def mkX (f0 : FuncId) : Ext :=
  ⟨fun f args h => bc (Nat.beq f f0) (match args with | [.int .i64 (.ofNat n)] => bc (Nat.ble n 4294967296) (some (.sl h.next 0 n n 1 false, h.new (.cells (List.replicate n (.junk 0)) true))) none | _ => none) none,
   fun _ _ _ _ => none, fun _ _ _ => none, fun _ _ _ => none, fun _ _ _ => none⟩

omit [Th] in
theorem digits_one : ∀ (n t : Nat) (acc : Array Value), (∀ (i : Nat) v, acc[i]? = some v → v.oneCell' = true) → ∀ (i : Nat) v, (Extern.BytealgMakeNoZero.digits n t acc)[i]? = some v → v.oneCell' = true
  | 0, _, _, h => h
  | n + 1, t, acc, h => by
    rw [Extern.BytealgMakeNoZero.digits]
    refine digits_one n _ _ fun i v hv => ?_
    rw [Array.getElem?_push] at hv
    split at hv
    · cases hv; rfl
    · exact h i v hv

theorem mkX_ok (hJ : ∀ v : Value, v.oneCell' = true → Th.J 0 v) {f0 : FuncId} {fn0 : Func} {t e : TypeId} {ps : Array TypeId} (hf0 : P.funcs[f0]? = some fn0)
    (hname : (fn0.name == "runtime.NumGoroutine") = false) (hn : Extern.findNext fn0 = none) (hfind : Extern.find fn0 = some (Extern.BytealgMakeNoZero.makeNoZero ps #[t])) (ht : P.underlying t = some (.slice e)) : XOk P (mkX f0) := by
  refine ⟨fun f fn hf hb args h v h' he β w cargs s hv => ?_, fun _ _ _ _ _ e => by (cases e), fun _ _ _ _ e => by (cases e), fun _ _ _ _ _ _ _ _ e => by (cases e), fun _ _ _ _ e => by (cases e)⟩
  have he' : bc (Nat.beq f f0) (match args with | [.int .i64 (.ofNat n)] => bc (Nat.ble n 4294967296) (some (AV.sl h.next 0 n n 1 false, h.new (.cells (List.replicate n (.junk 0)) true))) none | _ => none) none = some (v, h') := he
  rw [bc_none, beq_t] at he'
  obtain ⟨rfl, he'⟩ := he'
  rw [hf0] at hf; cases hf
  split at he'
  · rename_i n
    rw [bc_none, ble_t, Option.some.injEq, Prod.mk.injEq] at he'
    obtain ⟨hn', rfl, rfl⟩ := he'
    simp only [VRs, VR] at hv
    obtain ⟨u, us, h1, rfl, rfl⟩ := hv
    have hcargs : cargs = #[.int .i64 (n : Int)] := by
      cases cargs; simp only at h1; rw [h1]; rfl
    subst hcargs
    have hrun := run_callFunc_extern hf0 hname (by rw [hb]; rfl) hn hfind #[.int .i64 (n : Int)] w
    have hdef : Extern.BytealgMakeNoZero.makeNoZero ps #[t] #[.int .i64 n] =
      (do
        let .slice elem ← underlying t | stuck "bytealg.MakeNoZero: slice type expected"
        if (n : Int) < 0 || (n : Int) > 2 ^ 48 then runtimePanic (.error "makeslice: len out of range")
        let cap ← choose (.appendCap (n : Int).toNat 0 elem)
        askRoom cap
        let bytes ← choose (.extern "internal/bytealg.MakeNoZero.bytes" 0)
        let a ← newRow elem (Extern.BytealgMakeNoZero.digits cap bytes #[])
        pure (.slice (some a) (n : Int).toNat cap)) := rfl
    have hcs : ∃ cs : Array Value, (Extern.BytealgMakeNoZero.makeNoZero ps #[t] #[.int .i64 n]).run P w = .ok (.slice (some ⟨w.heap.size, 0, none⟩) n cs.size) (w.drew.drew.alloc (.cells cs e)) ∧ n ≤ cs.size ∧ ∀ (i : Nat) v, cs[i]? = some v → v.oneCell' = true := by
      refine ⟨Extern.BytealgMakeNoZero.digits (grownCap w n 0 e) ((Question.extern "internal/bytealg.MakeNoZero.bytes" 0).cut (w.tape (w.drawn + 1) (.extern "internal/bytealg.MakeNoZero.bytes" 0))) #[], ?_, ?_, digits_one _ _ _ (fun i v hv => by simp at hv)⟩
      · rw [hdef]
        have h1 : ¬ (n : Int) < 0 := by omega
        have h2 : ¬ (281474976710656 : Int) < (n : Int) := by omega
        simp [run_underlying ht, h1, h2, Question.forced, newRow, Lib.size_digits, grownCap]
      · rw [Lib.size_digits]
        simpa using grownCap_ge w n 0 e
    obtain ⟨cs, hr, hle, hone⟩ := hcs
    obtain ⟨m1, m2⟩ := s.drew.drew.make (.cells (List.replicate n (.junk 0)) true) (.cells cs e (0, 0)) 0 cs.size (fun β' w' hb hn hw =>
      ⟨_, 0, cs.size, cs, e, (0, 0), hn, hw, rfl, by omega, by intro _ i; omega, by simp; exact hle, fun j v hj => by
        rw [List.getElem?_replicate] at hj
        split at hj
        · rename_i hjn
          cases hj
          refine ⟨cs[j]'(by omega), by rw [Nat.zero_add]; exact Array.getElem?_eq_getElem (by omega), ?_⟩
          simp only [VR]
          exact hJ _ (hone j _ (Array.getElem?_eq_getElem (by omega)))
        · cases hj⟩)
    refine ⟨.slice (some ⟨w.heap.size, 0, none⟩) n cs.size, _, _, ?_, ?_, m1, ((Kept.drew β h w).trans (Kept.drew β h _)).trans m2⟩
    · rw [hrun, hr]; rfl
    · simp only [VR]
      exact ⟨_, _, _, cs.size, Bet.put_same .., rfl, Nat.le_refl _, hle, fun e => (by cases e), by omega⟩
  · cases he'

/-! an operation that only reads calls nothing -/
section
variable {h : H}
def NoC (_h : H) (x : Option R) : Prop := ∀ f args h', x ≠ some (.call f args h')

omit [Th] in
theorem NoC.none : NoC h none := fun _ _ _ e => by cases e
omit [Th] in
theorem NoC.ret {v : AV} : NoC h (retV v h) := fun _ _ _ e => by cases e
omit [Th] in
theorem NoC.ob {α : Type} {x : Option α} {f : α → Option R} (hf : ∀ a, NoC h (f a)) : NoC h (ob x f) := by
  cases x with
  | none => exact NoC.none
  | some a => exact hf a
omit [Th] in
theorem NoC.bc {c : Bool} {a b : Option R} (ha : NoC h a) (hb : NoC h b) : NoC h (bc c a b) := by
  cases c with
  | true => exact ha
  | false => exact hb

omit [Th] in
theorem NoC.orE {a b : Option R} (ha : NoC h a) (hb : NoC h b) : NoC h (orE a b) := by
  cases a with
  | none => exact hb
  | some x => exact ha

omit [Th] in
theorem reader_noc {ε : Env} {o : Op} (hk : kindOf P o = 0) : NoC h (exec P X ε h o) := by
  cases o with
  | move x =>
    show NoC h (e_move x P X ε h)
    unfold e_move
    repeat' first | exact NoC.ret | exact NoC.none | apply NoC.bc | (apply NoC.ob; intro _)
  | assign x =>
    show NoC h (e_assign x P X ε h)
    unfold e_assign
    repeat' first | exact NoC.ret | exact NoC.none | apply NoC.bc | (apply NoC.ob; intro _)
  | pick c a b =>
    show NoC h (e_pick c a b P X ε h)
    unfold e_pick
    repeat' first | exact NoC.ret | exact NoC.none | apply NoC.bc | (apply NoC.ob; intro _)
  | build t ps =>
    show NoC h (e_build t ps P X ε h)
    unfold e_build
    repeat' first | exact NoC.ret | exact NoC.none | apply NoC.bc | (apply NoC.ob; intro _)
  | load t a =>
    show NoC h (e_load t a P X ε h)
    unfold e_load
    repeat' first | exact NoC.ret | exact NoC.none | apply NoC.bc | (apply NoC.ob; intro _)
  | nilCheck x =>
    show NoC h (e_nilCheck x P X ε h)
    unfold e_nilCheck
    repeat' first | exact NoC.ret | exact NoC.none | apply NoC.bc | (apply NoC.ob; intro _)
  | binOp op t x y u =>
    show NoC h (e_binOp op t x y u P X ε h)
    unfold e_binOp
    repeat' first | exact NoC.ret | exact NoC.none | apply NoC.bc | (apply NoC.ob; intro _)
  | unOp op t x =>
    show NoC h (e_unOp op t x P X ε h)
    unfold e_unOp
    repeat' first | exact NoC.ret | exact NoC.none | apply NoC.bc | (apply NoC.ob; intro _)
  | makeInterface t x =>
    show NoC h (e_makeInterface t x P X ε h)
    unfold e_makeInterface
    repeat' first | exact NoC.ret | exact NoC.none | apply NoC.bc | (apply NoC.ob; intro _)
  | slice t x lo hi mx =>
    show NoC h (e_slice t x lo hi mx P X ε h)
    unfold e_slice
    repeat' first | exact NoC.ret | exact NoC.none | apply NoC.bc | (apply NoC.ob; intro _)
  | fieldAddr t x f =>
    show NoC h (e_fieldAddr t x f P X ε h)
    unfold e_fieldAddr
    repeat' first | exact NoC.ret | exact NoC.none | apply NoC.bc | (apply NoC.ob; intro _)
  | field t x f =>
    show NoC h (e_field t x f P X ε h)
    unfold e_field
    repeat' first | exact NoC.ret | exact NoC.none | apply NoC.bc | (apply NoC.ob; intro _)
  | lookup t x k ok =>
    show NoC h (e_lookup t x k ok P X ε h)
    unfold e_lookup
    repeat' first | exact NoC.ret | exact NoC.none | apply NoC.bc | (apply NoC.ob; intro _)
  | typeAssert x t a ok =>
    show NoC h (e_typeAssert x t a ok P X ε h)
    unfold e_typeAssert
    repeat' first | exact NoC.ret | exact NoC.none | apply NoC.bc | (apply NoC.ob; intro _)
  | extract t i =>
    show NoC h (e_extract t i P X ε h)
    unfold e_extract
    repeat' first | exact NoC.ret | exact NoC.none | apply NoC.bc | (apply NoC.ob; intro _)
  | indexAddr t x i =>
    show NoC h (e_indexAddr t x i P X ε h)
    refine .ob fun d => .ob fun a => .ob fun j => .ob fun u => ?_
    cases d <;> first | exact NoC.none | skip
    · refine .ob fun s => ?_
      cases u <;> first | exact NoC.none | exact .bc (.bc .ret .none) .none
    · exact .bc (.ob fun p => .ob fun s => .ret) .none
  | index t x i =>
    show NoC h (e_index t x i P X ε h)
    refine .ob fun d => .ob fun a => .ob fun j => .ob fun u => ?_
    cases d <;> first | exact NoC.none | exact .ob fun s => .ob fun b => .ret | exact .bc (.ob fun p => .ob fun s => .ob fun v => .ret) .none
  | makeFunc f a b =>
    show NoC h (e_makeFunc f a b P X ε h)
    cases f <;> first | exact NoC.none | exact .ob fun a => .ob fun b => .ret
  | convert s d x =>
    show NoC h (e_convert s d x P X ε h)
    refine .ob fun s' => ?_
    cases hd : P.underlying d with
    | none => exact NoC.none
    | some d' =>
      simp only [kindOf, hd] at hk
      refine NoC.ob (x := ε x) fun u => .orE ?_ (.ob fun _ => .ret)
      cases d' <;> first | (cases hk; done) | skip
      · exact .bc (.ob fun n => .ret) .none
      · cases s' <;> first | exact NoC.none | exact .ob fun s => .ret | exact .ob fun d => .bc (.ob fun b => .ret) .none
  | call c =>
    obtain ⟨callee, args, ts⟩ := c
    show NoC h (e_call ⟨callee, args, ts⟩ P X ε h)
    refine .ob fun as => ?_
    cases callee with
    | value f => cases hk
    | invoke r m => cases hk
    | builtin b =>
      refine .orE (a := builtinT b P h ts as) ?_ (.ob fun _ => .ret)
      cases b <;> first | (cases hk; done) | skip
      · show NoC h (x_cap P h ts as)
        refine .ob fun t => .ob fun _ => ?_
        rcases as with _ | ⟨a, _ | ⟨_, _⟩⟩ <;> first | exact NoC.none | skip
        show NoC h (capV a h)
        cases a <;> first | exact NoC.none | exact NoC.ret | exact .bc .ret .none
      · show NoC h (x_len P h ts as)
        refine .ob fun t => .ob fun d => ?_
        rcases as with _ | ⟨a, _ | ⟨_, _⟩⟩ <;> first | exact NoC.none | skip
        show NoC h (lenD P d a h)
        cases d <;> first | exact NoC.none | exact NoC.ret | exact .bc .none (.ob fun n => .ret) | exact .ob fun n => .ret | exact .ob fun n => .ob fun n => .ret | exact .ob fun n => .ob fun n => .ob fun n => .ret | (refine .ob fun d2 => ?_; cases d2 <;> first | exact NoC.none | exact NoC.ret)
      · show NoC h (x_max P h ts as)
        rcases as with _ | ⟨a, _ | ⟨b, _ | ⟨_, _⟩⟩⟩ <;> first | exact NoC.none | exact .ob fun a => .ob fun b => .bc .ret .none
      · show NoC h (x_min P h ts as)
        rcases as with _ | ⟨a, _ | ⟨b, _ | ⟨_, _⟩⟩⟩ <;> first | exact NoC.none | exact .ob fun a => .ob fun b => .bc .ret .none
  | _ => cases hk

omit [Th] in
theorem reader_no_call {ε : Env} {o : Op} {f : FuncId} {args : List AV} {h2 : H} (hk : kindOf P o = 0) (he : exec P X ε h o = some (.call f args h2)) : False := reader_noc hk f args h2 he
end

/-! a region that draws its order and only reads -/
noncomputable def readersOk (P : Program) (ops : List Oper) : Bool :=
  drawOk ops (preOf ops []) && (ops.all (fun o => Nat.beq (kindOf P o.op) 0) && ((List.range ops.length).all (fun i => match nth (preOf ops []) i with | some pi => Nat.blt pi (2 ^ i) | none => false)))

omit [Th] in
theorem backNext_get (n : Nat) (h : H) (b : Nat) : (backNext n h).get b = h.get b := by cases h; rfl
omit [Th] in
theorem backNext_next (n : Nat) (h : H) : (backNext n h).next = n := by cases h; rfl

omit [Th] in
theorem runDraw_readers {call : Caller} {ops : List Oper} {ρ ρ' : Fm} {h h' : H} (hk : readersOk P ops = true)
    (hr0 : runOps P X call ops ops ρ (backNext (Nat.add h.next ops.length) h) = some (ρ', h')) :
    runDraw P X call ops ρ h = some (ρ', backNext (Nat.add h.next ops.length) h) := by
  unfold readersOk at hk
  rw [Bool.and_eq_true, Bool.and_eq_true] at hk
  obtain ⟨h1, h2, h3⟩ := hk
  rw [List.all_eq_true] at h2 h3
  have hkind : ∀ (i : Nat) o, ops[i]? = some o → kindOf P o.op = 0 := fun i o ho => beq_t.1 (h2 o (List.mem_of_getElem? ho))
  have hpre : ∀ i, i < ops.length → ∃ pi, nth (preOf ops []) i = some pi ∧ pi < 2 ^ i := fun i hi => by
    have := h3 i (List.mem_range.2 hi)
    cases hn : nth (preOf ops []) i with
    | none => rw [hn] at this; cases this
    | some pi => rw [hn] at this; exact ⟨pi, rfl, blt_t.1 this⟩
  have heff : effsOf P ops = [] := by
    unfold effsOf
    have : (ops.zipIdx.filter fun q => Nat.beq (kindOf P q.1.op) 2) = [] := by
      rw [List.filter_eq_nil_iff]
      intro q hq
      have : q.1 ∈ ops := by
        have := List.mem_zipIdx hq
        exact List.mem_of_getElem? (i := q.2) (by have h4 := this; obtain ⟨a, b, c⟩ := h4; rw [List.getElem?_eq_getElem (by omega)]; simp [c])
      rw [beq_t.1 (h2 _ this)]; decide
    rw [this]; rfl
  have hdem : demand P ops (preOf ops []) = List.range ops.length := by
    have : demand P ops (preOf ops []) = (List.foldl (fun (acc : List Nat) k =>
        acc ++ (((List.range ops.length).filter fun i => !(acc.contains i) && Nat.testBit ((nth (preOf ops []) k).getD 0) i) ++ [k])) [] (effsOf P ops)) ++ (List.range ops.length).filter (fun i => !((List.foldl (fun (acc : List Nat) k =>
        acc ++ (((List.range ops.length).filter fun i => !(acc.contains i) && Nat.testBit ((nth (preOf ops []) k).getD 0) i) ++ [k])) [] (effsOf P ops)).contains i)) := rfl
    rw [this, heff]
    simp
  unfold runDraw
  rw [h1, bc_true, hdem, heff]
  generalize hg : backNext (Nat.add h.next ops.length) h = g at *
  have key : ∀ (l : List Oper) (i : Nat) (ρ : Fm), ops.drop i = l → i + l.length = ops.length → ∀ ρ' h', runOps P X call ops l ρ g = some (ρ', h') →
      foldD (fun i s => stepD P X call ops (preOf ops []) h.next i s) (List.range' i l.length) ⟨ρ, g, g, [], [], 2 ^ i - 1⟩ = some ⟨ρ', g, g, [], [], 2 ^ ops.length - 1⟩ := by
    intro l
    induction l with
    | nil =>
      intro i ρ hd hl ρ' h' hr
      have hr' : some (ρ, g) = some (ρ', h') := hr
      cases hr'
      have : i = ops.length := by simpa using hl
      subst this
      rfl
    | cons o l ih =>
      intro i ρ hd hl ρ' h' hr
      have hi : i < ops.length := by simp at hl; omega
      have ho : ops[i]? = some o := by
        have := congrArg (fun l => l[0]?) hd
        simpa using this
      obtain ⟨pi, hpi, hlt⟩ := hpre i hi
      have hd' : ops.drop (i + 1) = l := by
        rw [← List.drop_drop, hd]; rfl
      have hl' : (i + 1) + l.length = ops.length := by simp at hl; omega
      rw [runOps_cons, ob_eq] at hr
      obtain ⟨b, hw, hr⟩ := hr
      have hstep : ∀ ρ1, (bc b (ob (exec P X (ev P ρ) g o.op) fun r => after call r fun v h => ob (putT ρ o.dst v) fun ρ => runOps P X call ops l ρ h) (ob (putT ρ o.dst undef) fun ρ => runOps P X call ops l ρ g) = runOps P X call ops l ρ1 g) →
          stepD P X call ops (preOf ops []) h.next i ⟨ρ, g, g, [], [], 2 ^ i - 1⟩ = some ⟨ρ1, g, g, [], [], 2 ^ (i + 1) - 1⟩ →
          foldD (fun i s => stepD P X call ops (preOf ops []) h.next i s) (List.range' i (o :: l).length) ⟨ρ, g, g, [], [], 2 ^ i - 1⟩ = some ⟨ρ', g, g, [], [], 2 ^ ops.length - 1⟩ := by
        intro ρ1 he hs
        show foldD _ (i :: List.range' (i + 1) l.length) _ = _
        show ob (stepD P X call ops (preOf ops []) h.next i ⟨ρ, g, g, [], [], 2 ^ i - 1⟩) _ = _
        rw [hs, ob_some]
        exact ih (i + 1) ρ1 hd' hl' ρ' h' (he ▸ hr)
      have hbit : Nat.testBit (2 ^ i - 1) i = false := by simp [Nat.testBit_two_pow_sub_one]
      have hsub : Nat.beq (Nat.land pi (2 ^ i - 1)) pi = true := by
        refine beq_t.2 ?_
        show pi &&& (2 ^ i - 1) = pi
        rw [Nat.and_two_pow_sub_one_eq_mod, Nat.mod_eq_of_lt hlt]
      have hdone : Nat.lor (2 ^ i - 1) (Nat.pow 2 i) = 2 ^ (i + 1) - 1 := by
        show (2 ^ i - 1) ||| 2 ^ i = _
        have h5 : 2 ^ i - 1 < 2 ^ i := by have := Nat.two_pow_pos i; omega
        have h6 := Nat.two_pow_add_eq_or_of_lt h5 1
        rw [Nat.or_comm]
        have h7 := Nat.two_pow_pos i
        rw [Nat.mul_one] at h6
        rw [← h6, Nat.pow_succ]
        omega
      have hko := hkind i o ho
      have hk2 : Nat.beq (kindOf P o.op) 2 = false := by rw [hko]; rfl
      have hk1 : Nat.beq (kindOf P o.op) 1 = false := by rw [hko]; rfl
      cases b with
      | true =>
        rw [bc_true, ob_eq] at hr
        obtain ⟨r, he, hr⟩ := hr
        cases r with
        | call f args h2 =>
          exact (reader_no_call hko he).elim
        | val v h2 =>
          have hh2 : h2 = g := reader_stays hko v h2 he
          rw [hh2] at hr he
          rw [after_val, ob_eq] at hr
          obtain ⟨ρ1, hp, hr1⟩ := hr
          refine hstep ρ1 ?_ ?_
          · rw [bc_true, he, ob_some, after_val, hp, ob_some]
          · unfold stepD
            simp only [nth_eq, ho, ob_some]
            rw [← nth_eq, hpi, ob_some, hbit, bc_false, hsub, bc_true, hw, ob_some, hk2, bc_false]
            show bc (needOk (preOf ops []) [] i) _ none = _
            rw [show needOk (preOf ops []) [] i = true from rfl, bc_true, bc_true, hk1, bc_false, he, ob_some]
            show (bc (stableE P X (ev P ρ) o.op v pi []) (ob (putT ρ o.dst v) fun ρ' => some (DS.mk ρ' g g [] [] (Nat.lor (2 ^ i - 1) (Nat.pow 2 i)))) none) = _
            rw [show stableE P X (ev P ρ) o.op v pi [] = true from rfl, bc_true, hp, ob_some, hdone]
      | false =>
        rw [bc_false, ob_eq] at hr
        obtain ⟨ρ1, hp, hr1⟩ := hr
        refine hstep ρ1 ?_ ?_
        · rw [bc_false, hp, ob_some]
        · unfold stepD
          simp only [nth_eq, ho, ob_some]
          rw [← nth_eq, hpi, ob_some, hbit, bc_false, hsub, bc_true, hw, ob_some, hk2, bc_false]
          show bc (needOk (preOf ops []) [] i) _ none = _
          rw [show needOk (preOf ops []) [] i = true from rfl, bc_true, bc_false, hp, ob_some, hdone]
  have := key ops 0 ρ rfl (by simp) ρ' h' hr0
  rw [List.range_eq_range']
  have this' : foldD (fun i s => stepD P X call ops (preOf ops []) h.next i s) (List.range' 0 ops.length) ⟨ρ, g, g, [], [], 0⟩ = some ⟨ρ', g, g, [], [], 2 ^ ops.length - 1⟩ := this
  rw [this', ob_some]
  show bc true (bc (Nat.beq (2 ^ ops.length - 1) (Nat.sub (Nat.pow 2 ops.length) 1)) (some (ρ', g)) none) none = _
  rw [bc_true, show Nat.beq (2 ^ ops.length - 1) (Nat.sub (Nat.pow 2 ops.length) 1) = true from beq_t.2 rfl, bc_true]

theorem AC.readers (hP : POk P) (hX : XOk P X) {call : Caller} (hc : COk P call) {id : Nat} {ops : Array Oper} {ρ ρ' : Fm} {h' : H} {y : Code} {Q : AX → Fm → H → Prop} (hk : readersOk P ops.toList = true)
    (hx : runOps P X call ops.toList ops.toList ρ (backNext (Nat.add h.next ops.toList.length) h) = some (ρ', h')) (hy : AC P y ρ' (backNext (Nat.add h.next ops.toList.length) h) Q) : AC P (.seq (.region id ops true) y) ρ h Q :=
  AC.drawn hP hX hc (runDraw_readers hk hx) hy

/-! a slice that the call itself made, of elements of one cell, which grows -/
def Own (h : H) (s : AV) (l : List AV) : Prop :=
  (s = .nils ∧ l = []) ∨ ∃ b, s = .sl b 0 l.length l.length 1 false ∧ h.get b = some (.cells l true) ∧ b < h.next

omit [Th] in
theorem Own.slAt {s : AV} {l : List AV} (o : Own h s l) : SlAt h s 1 l := by
  rcases o with ⟨rfl, rfl⟩ | ⟨b, rfl, hb, _⟩
  · rfl
  · refine ⟨rfl, by omega, fun i hi => ?_⟩
    unfold loadCell
    rw [hb, ob_some]
    show nth l (0 + i) = _
    rw [nth_eq, Nat.zero_add]

omit [Th] in
theorem Own.turn {s : AV} {l : List AV} {h' : H} (o : Own h s l) (hn : h.next ≤ h'.next) (hg : ∀ b, b < h.next → h'.get b = h.get b) : Own h' s l := by
  rcases o with ⟨rfl, rfl⟩ | ⟨b, rfl, hb, hlt⟩
  · exact .inl ⟨rfl, rfl⟩
  · exact .inr ⟨b, rfl, by rw [hg b hlt]; exact hb, by omega⟩

omit [Th] in
/-- 'append(s, v)': what v is stands in a block of its own -/
theorem append1 {s v : AV} {l : List AV} {st xt e : TypeId} {by_ : Nat} {z : List AV} {q : Nat} (o : Own h s l) (hst : telem P st = some e) (hxt : P.underlying xt = some (.slice e)) (hi : elemInfo P e = some (1, by_, z)) (hv : v.one = true)
    (hq : h.get q = some (.cells [v] true)) (hqn : q < h.next) (hsz : (l.length + 1) * (by_ + 1) ≤ 1099511627776) (hqs : ∀ b, s = .sl b 0 l.length l.length 1 false → b ≠ q) :
    ∃ s' h', appendA P h st xt s (.sl q 0 1 1 1 true) = some (.val s' h') ∧ Own h' s' (l ++ [v]) ∧ h'.next = h.next + 1 ∧ (∀ b, b < h.next → (∀ b', s = .sl b' 0 l.length l.length 1 false → b ≠ b') → h'.get b = h.get b) ∧ ∀ b' n c es ex, s' = .sl b' 0 n c es ex → b' = h.next := by
  have hnews : newsOf h 1 z (.slice e) (.sl q 0 1 1 1 true) = some (1, [v]) := by
    show bc (isIntD (.slice e)) _ (ob (some 1) fun n => ob (firstCells h 1 n (.sl q 0 1 1 1 true)) fun l => some (n, l)) = _
    show ob (firstCells h 1 1 (.sl q 0 1 1 1 true)) (fun l => some (1, l)) = _
    show ob (bc (Nat.beq 1 1) (loadCells h q 0 (Nat.mul 1 1)) none) (fun l => some (1, l)) = _
    show ob (ob (h.get q) fun x => ob (asCells x) fun c => takeN 1 (dropN 0 c)) (fun l => some (1, l)) = _
    rw [hq]; rfl
  have hall : allOne [v] = true := by
    show bc v.one true false = true
    rw [hv]; rfl
  rcases o with ⟨rfl, rfl⟩ | ⟨b, rfl, hb, hlt⟩
  · refine ⟨.sl h.next 0 1 1 1 false, h.new (.cells [v] true), ?_, .inr ⟨h.next, rfl, ?_, by rw [H.next_new]; omega⟩, rfl, fun b hb _ => ?_, fun b' n c es ex e => by cases e; rfl⟩
    · unfold appendA
      rw [hst, ob_some, hi, ob_some, hxt, ob_some, hnews, ob_some]
      show ob (some 0) _ = _
      rw [ob_some]
      have : Nat.ble (Nat.mul (Nat.add 0 1) (Nat.add by_ 1)) maxBytes = true := ble_t.2 hsz
      rw [this, bc_true, hall, bc_true]
      rfl
    · rw [H.get_new, if_pos rfl]; rfl
    · rw [H.get_new, if_neg (by omega)]
  · have hbq := hqs b rfl
    refine ⟨.sl h.next 0 (l.length + 1) (l.length + 1) 1 false, (h.kill b).new (.cells (l ++ [v]) true), ?_, .inr ⟨h.next, by simp, ?_, by rw [H.next_new]; exact Nat.lt_succ_self _⟩, rfl, fun c hc hne => ?_, fun b' n c es ex e => by cases e; rfl⟩
    · unfold appendA
      rw [hst, ob_some, hi, ob_some, hxt, ob_some, hnews, ob_some]
      show ob (some l.length) _ = _
      rw [ob_some]
      have : Nat.ble (Nat.mul (Nat.add l.length 1) (Nat.add by_ 1)) maxBytes = true := ble_t.2 hsz
      rw [this, bc_true, hall, bc_true]
      show bc (Nat.beq 1 1) (bc (Nat.ble (Nat.add l.length 1) l.length) _ (ob (loadCells h b 0 (Nat.mul l.length 1)) fun old => some (R.val (.sl h.next 0 (Nat.add l.length 1) (Nat.add l.length 1) 1 false) ((h.kill b).new (.cells (old ++ [v]) (plainOf h b)))))) none = _
      have h1 : Nat.ble (Nat.add l.length 1) l.length = false := ble_f.2 (Nat.lt_succ_self _)
      have h2 : loadCells h b 0 (Nat.mul l.length 1) = some l := by
        unfold loadCells
        rw [hb, ob_some]
        show takeN (l.length * 1) (dropN 0 l) = _
        rw [takeN_eq, dropN_eq, List.drop_zero, Nat.mul_one, if_pos (Nat.le_refl _), List.take_length]
      have h3 : plainOf h b = true := by unfold plainOf; rw [hb]; rfl
      rw [h1, bc_false, h2, ob_some, h3]
      rfl
    · rw [H.get_new, H.next_kill, if_pos rfl]
    · rw [H.get_new, if_neg (by rw [H.next_kill]; omega), H.get_kill, if_neg (fun e => hne b rfl e.symm)]

omit [Th] in
theorem xa2 {t u : TypeId} {a b : AV} : Go.Ab.x_append P h #[t, u] [a, b] = appendA P h t u a b := rfl
omit [Th] in
theorem newSl_eq {cs : List AV} {n c es : Nat} {ex : Bool} : newSl h cs n c es ex = some (.val (.sl h.next 0 n c es ex) (h.new (.cells cs true))) := rfl
omit [Th] in
theorem fill1_int {z : AV} {k : IntKind} {n : Int} : fillParts (fun j => some (Nat.mul j 1, 1)) [(0, .int k n)] (repl [z] 1) = some [.int k n] := rfl
omit [Th] in
theorem build1 {ε : Env} {t e : TypeId} {x : Operand} {by_ : Nat} {z : AV} (ht : telem P t = some e) (hi : elemInfo P e = some (1, by_, [z])) :
    exec P X ε h (.buildSlice t 1 #[(0, x)]) = ob (ε x) fun v => ob (fillParts (fun j => some (Nat.mul j 1, 1)) [(0, v)] (repl [z] 1)) fun cs => some (.val (.sl h.next 0 1 1 1 true) (h.new (.cells cs true))) := by
  rw [x_buildSlice, ht, ob_some, hi, ob_some]
  show ob (ob (ε x) fun v => ob (some []) fun r => some ((0, v) :: r)) _ = _
  cases ε x with
  | none => rfl
  | some v => rfl

/-- bytes in a block of their own, as long as the slice may be -/
def Blk (h : H) (v : AV) (l : List AV) : Prop := (v = .nils ∧ l = []) ∨ ∃ b, v = .sl b 0 l.length l.length 1 true ∧ h.get b = some (.cells l true) ∧ b < h.next

omit [Th] in
theorem Blk.slAt {v : AV} {l : List AV} (e : Blk h v l) : SlAt h v 1 l := by
  rcases e with ⟨rfl, rfl⟩ | ⟨b, rfl, hb, _⟩
  · rfl
  · refine ⟨rfl, by omega, fun i hi => ?_⟩
    unfold loadCell
    rw [hb, ob_some]
    show nth l (0 + i) = _
    rw [nth_eq, Nat.zero_add]

omit [Th] in
/-- 'append' to such a block: it stays -/
theorem append1x {s v : AV} {l : List AV} {st xt e : TypeId} {by_ : Nat} {z : List AV} {q : Nat} (o : Blk h s l) (hst : telem P st = some e) (hxt : P.underlying xt = some (.slice e)) (hi : elemInfo P e = some (1, by_, z)) (hv : v.one = true)
    (hq : h.get q = some (.cells [v] true)) (hsz : (l.length + 1) * (by_ + 1) ≤ 1099511627776) :
    ∃ s' h', appendA P h st xt s (.sl q 0 1 1 1 true) = some (.val s' h') ∧ h.next ≤ h'.next ∧ ∀ b, b < h.next → h'.get b = h.get b := by
  have hnews : newsOf h 1 z (.slice e) (.sl q 0 1 1 1 true) = some (1, [v]) := by
    show ob (ob (h.get q) fun x => ob (asCells x) fun c => takeN 1 (dropN 0 c)) (fun l => some (1, l)) = _
    rw [hq]; rfl
  have hall : allOne [v] = true := by
    show bc v.one true false = true
    rw [hv]; rfl
  rcases o with ⟨rfl, rfl⟩ | ⟨b, rfl, hb, hlt⟩
  · refine ⟨.sl h.next 0 1 1 1 false, h.new (.cells [v] true), ?_, by rw [H.next_new]; omega, fun b hb => ?_⟩
    · unfold appendA
      rw [hst, ob_some, hi, ob_some, hxt, ob_some, hnews, ob_some]
      show ob (some 0) _ = _
      rw [ob_some]
      have : Nat.ble (Nat.mul (Nat.add 0 1) (Nat.add by_ 1)) maxBytes = true := ble_t.2 hsz
      rw [this, bc_true, hall, bc_true]
      rfl
    · rw [H.get_new, if_neg (by omega)]
  · refine ⟨.sl h.next 0 (l.length + 1) (l.length + 1) 1 false, h.new (.cells (l ++ [v]) true), ?_, by rw [H.next_new]; omega, fun c hc => ?_⟩
    · unfold appendA
      rw [hst, ob_some, hi, ob_some, hxt, ob_some, hnews, ob_some]
      show ob (some l.length) _ = _
      rw [ob_some]
      have : Nat.ble (Nat.mul (Nat.add l.length 1) (Nat.add by_ 1)) maxBytes = true := ble_t.2 hsz
      rw [this, bc_true, hall, bc_true]
      show bc (Nat.beq 1 1) (bc (Nat.ble (Nat.add l.length 1) l.length) _ (ob (loadCells h b 0 (Nat.mul l.length 1)) fun old => some (R.val (.sl h.next 0 (Nat.add l.length 1) (Nat.add l.length 1) 1 false) (h.new (.cells (old ++ [v]) true))))) none = _
      have h1 : Nat.ble (Nat.add l.length 1) l.length = false := ble_f.2 (Nat.lt_succ_self _)
      have h2 : loadCells h b 0 (Nat.mul l.length 1) = some l := by
        unfold loadCells
        rw [hb, ob_some]
        show takeN (l.length * 1) (dropN 0 l) = _
        rw [takeN_eq, dropN_eq, List.drop_zero, Nat.mul_one, if_pos (Nat.le_refl _), List.take_length]
      rw [h1, bc_false, h2, ob_some]
      rfl
    · rw [H.get_new, if_neg (by omega)]

omit [Th] in
theorem loadCell_back (n : Nat) (h : H) (b o : Nat) : loadCell (backNext n h) b o = loadCell h b o := by unfold loadCell; rw [backNext_get]
omit [Th] in
theorem SlAt.turn {s : AV} {es : Nat} {l : List AV} {h' : H} (e : SlAt h s es l) (hg : ∀ b, h'.get b = h.get b) : SlAt h' s es l := by
  have : ∀ b o, loadCell h' b o = loadCell h b o := fun b o => by unfold loadCell; rw [hg]
  cases s <;> simp only [SlAt, this] at e ⊢ <;> exact e

end Go.Ab
