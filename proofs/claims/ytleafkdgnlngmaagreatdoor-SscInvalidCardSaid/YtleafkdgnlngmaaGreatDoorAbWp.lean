/- Rules by which a call is followed over the abstract heap where the evaluator alone does not do: loops by induction, callees by what is proved of them. -/
import Derived.Test.YtleafkdgnlngmaaGreatDoorAbDraw7
namespace Go.Ab
open Go
variable [Th]
variable {P : Program} {X : Ext} {S : Specs} {β : Bet} {h : H} {w : World}

/-- what is known of a frame is known of another -/
structure FSub (ρ0 ρ : Fm) : Prop where
  n : Fm.n ρ0 = Fm.n ρ
  t : ∀ t v, tget ρ0 t = some v → tget ρ t = some v

theorem FrR.fsub {ρ0 ρ : Fm} {a : Act} (f : FrR β ρ a) (u : FSub ρ0 ρ) : FrR β ρ0 a :=
  ⟨u.n.trans f.n, fun t v ht => f.t t v (u.t t v ht), f.d⟩

omit [Th] in
/-- a heap of which less is known at the begin -/
theorem Kept.sup {A0 A h' : H} {β' : Bet} {w' : World} (k : Kept β A0 w β' h' w') (u : Sub A0 A) : Kept β A w β' h' w' :=
  ⟨k.size, k.ext, fun b r hr => by rw [← u.next]; exact k.dom b r hr, by rw [← u.next]; exact k.next, fun i hi hne => k.old i hi fun b o r g1 g2 => hne b o r (u.get _ _ g1) g2,
   fun b o r h1 h2 => (k.new b o r h1 h2).imp (fun ⟨b0, o0, r0, g1, g2, g3⟩ => ⟨b0, o0, r0, u.get _ _ g1, g2, g3⟩) id, k.os, k.tape, k.output⟩

/-- code, begun in such a frame and heap, ends so -/
def AC (P : Program) (c : Code) (ρ : Fm) (h : H) (Q : AX → Fm → H → Prop) : Prop :=
  ∀ (β : Bet) (w : World) (a : Act), FrR β ρ a → GOk P β → Sim β h w → ∀ K : Exit → Act → World → Prop,
    (∀ e ρ' h' β' w' a', Q e ρ' h' → FrR β' ρ' a' → Sim β' h' w' → Kept β h w β' h' w' → K (exOf e) a' w') → wpL P c K a w

/-- a call, begun in such a heap, returns so -/
def ACall (P : Program) (f : FuncId) (args : List AV) (h : H) (Q : AV → H → Prop) : Prop :=
  ∀ (β : Bet) (w : World) (cargs : Array Value), GOk P β → Sim β h w → VRs β args cargs.toList →
    Calls P f cargs w fun e w' => ∃ v h' β' cv, Q v h' ∧ e = .returned cv ∧ VR β' v cv ∧ Sim β' h' w' ∧ Kept β h w β' h' w'

/-- operations of a region, one behind the other -/
def AO (P : Program) (ops : Array Oper) (l : List Oper) (ρ : Fm) (h : H) (Q : Fm → H → Prop) : Prop :=
  ∀ is : List Nat, is.map (ops[·]?) = l.map some → ∀ (β : Bet) (w : World) (a : Act), FrR β ρ a → GOk P β → Sim β h w → ∀ K : Exit → Act → World → Prop,
    (∀ ρ' h' β' w' a', Q ρ' h' → FrR β' ρ' a' → Sim β' h' w' → Kept β h w β' h' w' → K .normal a' w') → wpOps P ops K is a w

theorem AC.mono {c : Code} {ρ : Fm} {Q Q' : AX → Fm → H → Prop} (hc : AC P c ρ h Q) (hq : ∀ e ρ' h', Q e ρ' h' → Q' e ρ' h') : AC P c ρ h Q' :=
  fun β w a f g s K hK => hc β w a f g s K fun e ρ' h' β' w' a' q => hK e ρ' h' β' w' a' (hq _ _ _ q)

theorem AC.weak {c : Code} {ρ0 ρ : Fm} {h0 : H} {Q : AX → Fm → H → Prop} (hc : AC P c ρ0 h0 Q) (u : FSub ρ0 ρ) (v : Sub h0 h) : AC P c ρ h Q :=
  fun β w a f g s K hK => hc β w a (f.fsub u) g (s.sub v) K fun e ρ' h' β' w' a' q f' s' k => hK e ρ' h' β' w' a' q f' s' (k.sup v)

theorem ACall.mono {f : FuncId} {args : List AV} {Q Q' : AV → H → Prop} (hc : ACall P f args h Q) (hq : ∀ v h', Q v h' → Q' v h') : ACall P f args h Q' :=
  fun β w cargs g s hv => (hc β w cargs g s hv).mono fun _ _ ⟨v, h', β', cv, q, r⟩ => ⟨v, h', β', cv, hq _ _ q, r⟩

theorem ACall.weak {f : FuncId} {args : List AV} {h0 : H} {Q : AV → H → Prop} (hc : ACall P f args h0 Q) (v : Sub h0 h) : ACall P f args h Q :=
  fun β w cargs g s hv => (hc β w cargs g (s.sub v) hv).mono fun _ _ ⟨x, h', β', cv, q, e, hv, s', k⟩ => ⟨x, h', β', cv, q, e, hv, s', k.sup v⟩

theorem ACall.of_call (hP : POk P) (hX : XOk P X) (hS : SOk P S) {n : Nat} {f : FuncId} {args : List AV} {v : AV} {h' : H} (hc : callFn P X S n f args h = some (v, h')) :
    ACall P f args h fun v' h2 => v' = v ∧ h2 = h' :=
  fun β w cargs g s hv => (call_ok hP hX hS n f args h v h' hc β w cargs g s hv).mono fun _ _ ⟨β', cv, e, r⟩ => ⟨v, h', β', cv, ⟨rfl, rfl⟩, e, r⟩

/-- three tries in one: what the second has beyond the first; else the third -/
noncomputable def Tr.mrg {α : Type} (t0 : Tr α) : Tr α → Tr α → Tr α
  | .e, t1 => t1
  | .n v l r, t1 => .n (match t0.val, v with | none, some o => some o | _, _ => t1.val) (mrg t0.lft l t1.lft) (mrg t0.rgt r t1.rgt)

omit [Th] in
theorem Tr.getI_mrg {α : Type} (i : Ix) : ∀ t0 t t1 : Tr α, Tr.getI i (Tr.mrg t0 t t1) = match Tr.getI i t0, Tr.getI i t with | none, some o => some o | _, _ => Tr.getI i t1 := by
  induction i with
  | z =>
    intro t0 t t1
    cases t with
    | e => show t1.val = match t0.val, none with | none, some o => some o | _, _ => t1.val
           cases t0.val <;> rfl
    | n v l r => rfl
  | o i ih =>
    intro t0 t t1
    cases t with
    | e => show Tr.getI i t1.lft = match Tr.getI i t0.lft, Tr.getI i (Tr.e) with | none, some o => some o | _, _ => Tr.getI i t1.lft
           rw [getI_e]; cases Tr.getI i t0.lft <;> rfl
    | n v l r => exact ih t0.lft l t1.lft
  | i i ih =>
    intro t0 t t1
    cases t with
    | e => show Tr.getI i t1.rgt = match Tr.getI i t0.rgt, Tr.getI i (Tr.e) with | none, some o => some o | _, _ => Tr.getI i t1.rgt
           rw [getI_e]; cases Tr.getI i t0.rgt <;> rfl
    | n v l r => exact ih t0.rgt r t1.rgt

/-- what is done on a part, done on the whole -/
noncomputable def H.mrg (h0 h h1 : H) : H := ⟨h1.next, Tr.mrg h0.tr h.tr h1.tr⟩

omit [Th] in
theorem H.get_mrg (h0 h h1 : H) (b : Nat) : (H.mrg h0 h h1).get b = match h0.get b, h.get b with | none, some o => some o | _, _ => h1.get b := by
  have := Tr.getI_mrg (ixOf b) h0.tr h.tr h1.tr
  show Tr.getI (ixOf b) (Tr.mrg h0.tr h.tr h1.tr) = _
  rw [this]
  unfold H.get Tr.get
  cases Tr.getI (ixOf b) h0.tr <;> cases Tr.getI (ixOf b) h.tr <;> rfl

/-- frame: what is proved over a part of a heap holds over the whole; the rest stays -/
theorem ACall.frame {f : FuncId} {args : List AV} {h0 : H} {Q : AV → H → Prop} (hc : ACall P f args h0 Q) (u : Sub h0 h) :
    ACall P f args h fun v h' => ∃ h1, Q v h1 ∧ h' = H.mrg h0 h h1 := by
  intro β w cargs g s hv
  refine (hc β w cargs g (s.sub u) hv).mono ?_
  rintro e w' ⟨v, h1, β', cv, q, e1, hv', s', k⟩
  obtain ⟨a1, a2, _⟩ := s.frame u s' k (A' := H.mrg h0 h h1) rfl (H.get_mrg h0 h h1)
  exact ⟨v, _, β', cv, ⟨h1, q, rfl⟩, e1, hv', a1, a2⟩

theorem ACall.body {f : FuncId} {fn : Func} {body : Code} {args : List AV} {ρ : Fm} {Q : AV → H → Prop} (hf : P.funcs[f]? = some fn) (hb : fn.body = some body) (he : entry fn args = some ρ)
    (hc : AC P body ρ h fun e ρ' h' => isEnd e = true ∧ ∃ v, resultsA P fn ρ' h' = some v ∧ Q v h') : ACall P f args h Q := by
  intro β w cargs g s hv
  refine calls_of_wp hf hb (wpL.wp (hc β w _ (entry_ok he hv) g s _ ?_))
  rintro e ρ' h' β' w' a' ⟨hend, v, hres, hq⟩ f' s' k'
  obtain ⟨cv, k1, k2⟩ := results_ok f' s' hres
  cases e with
  | normal => exact ⟨f'.d, cv, k1, v, h', β', cv, hq, rfl, k2, s', k'⟩
  | ret => exact ⟨f'.d, cv, k1, v, h', β', cv, hq, rfl, k2, s', k'⟩
  | exit i => cases hend
  | goto l => cases hend

theorem AC.run (hP : POk P) (hX : XOk P X) (hS : SOk P S) {n : Nat} {c : Code} {ρ ρ' : Fm} {e : AX} {h' : H} {Q : AX → Fm → H → Prop} (hr : runCode P X S n c ρ h = some (e, ρ', h')) (hq : Q e ρ' h') : AC P c ρ h Q :=
  fun β w a f g s _ hK => runCode_ok hP hX hS (draw_ok hP hX) n c ρ h e ρ' h' hr β w a f g s _ fun β' w' a' f' s' k' => hK e ρ' h' β' w' a' hq f' s' k'

theorem AC.skip {ρ : Fm} {Q : AX → Fm → H → Prop} (hq : Q .normal ρ h) : AC P .skip ρ h Q :=
  fun β w a f _ s _ hK => wp_skip (hK .normal ρ h β w a hq f s (Kept.refl ..))

theorem AC.ret {ρ : Fm} {Q : AX → Fm → H → Prop} (hq : Q .ret ρ h) : AC P .ret ρ h Q :=
  fun β w a f _ s _ hK => wp_ret (hK .ret ρ h β w a hq f s (Kept.refl ..))

theorem AC.exit {i : Nat} {ρ : Fm} {Q : AX → Fm → H → Prop} (hq : Q (.exit i) ρ h) : AC P (.exit i) ρ h Q :=
  fun β w a f _ s _ hK => wp_exit (hK (.exit i) ρ h β w a hq f s (Kept.refl ..))

/-- what comes next, where code ends normally -/
def AX.andThen (N : Fm → H → Prop) (Q : AX → Fm → H → Prop) : AX → Fm → H → Prop := fun e ρ h => match e with | .normal => N ρ h | e => Q e ρ h

theorem AC.seq {x y : Code} {ρ : Fm} {Q : AX → Fm → H → Prop} (hx : AC P x ρ h (AX.andThen (fun ρ' h' => AC P y ρ' h' Q) Q)) : AC P (.seq x y) ρ h Q := by
  intro β w a f g s K hK
  refine wp_seq (wpL.wp (hx β w a f g s _ ?_))
  intro e ρ1 h1 β1 w1 a1 q f1 s1 k1
  cases e with
  | normal => exact wpL.wp (q β1 w1 a1 f1 (g.kept k1) s1 K (fun e ρ2 h2 β2 w2 a2 q2 f2 s2 k2 => hK e ρ2 h2 β2 w2 a2 q2 f2 s2 (k1.trans k2)))
  | exit i => exact hK _ _ _ _ _ _ q f1 s1 k1
  | goto l => exact hK _ _ _ _ _ _ q f1 s1 k1
  | ret => exact hK _ _ _ _ _ _ q f1 s1 k1

theorem AC.cond {q : Operand} {x y : Code} {ρ : Fm} {t : Bool} {Q : AX → Fm → H → Prop} (hv : ev P ρ q = some (.bool t)) (hc : AC P (bif t then x else y) ρ h Q) : AC P (.cond q x y) ρ h Q := by
  intro β w a f g s K hK
  refine wp_cond (f.ev g _ _ hv) ?_
  cases t with
  | true => exact wpL.wp (hc β w a f g s K hK)
  | false => exact wpL.wp (hc β w a f g s K hK)

/-- the end of a block -/
def AX.inBlock (id : Nat) : AX → AX := fun e => match e with | .exit i => if i = id then .normal else .exit i | e => e

theorem AC.block {id : Nat} {b : Code} {ρ : Fm} {Q : AX → Fm → H → Prop} (hb : AC P b ρ h fun e => Q (e.inBlock id)) : AC P (.block id b) ρ h Q := by
  intro β w a f g s K hK
  refine wp_block (wpL.wp (hb β w a f g s _ ?_))
  intro e ρ1 h1 β1 w1 a1 q f1 s1 k1
  cases e with
  | normal => exact hK _ _ _ _ _ _ q f1 s1 k1
  | exit i =>
    by_cases hi : i = id
    · have q' : Q .normal ρ1 h1 := by simpa only [AX.inBlock, hi, if_true] using q
      simp only [exOf, Exit.inBlock, hi, if_true]
      exact hK _ _ _ _ _ _ q' f1 s1 k1
    · have q' : Q (.exit i) ρ1 h1 := by simpa only [AX.inBlock, hi, if_false] using q
      simp only [exOf, Exit.inBlock, hi, if_false]
      exact hK _ _ _ _ _ _ q' f1 s1 k1
  | goto l => exact hK _ _ _ _ _ _ q f1 s1 k1
  | ret => exact hK _ _ _ _ _ _ q f1 s1 k1

theorem AC.loop {b : Code} {ρ : Fm} {Q : AX → Fm → H → Prop} (hb : AC P b ρ h (AX.andThen (fun ρ' h' => AC P (.loop b) ρ' h' Q) Q)) : AC P (.loop b) ρ h Q := by
  intro β w a f g s K hK
  refine LWp.next (wpL.wp (hb β w a f g s _ ?_))
  intro e ρ1 h1 β1 w1 a1 q f1 s1 k1
  cases e with
  | normal => exact q β1 w1 a1 f1 (g.kept k1) s1 K (fun e ρ2 h2 β2 w2 a2 q2 f2 s2 k2 => hK e ρ2 h2 β2 w2 a2 q2 f2 s2 (k1.trans k2))
  | exit i => exact hK _ _ _ _ _ _ q f1 s1 k1
  | goto l => exact hK _ _ _ _ _ _ q f1 s1 k1
  | ret => exact hK _ _ _ _ _ _ q f1 s1 k1

/-- a region, by the evaluator -/
theorem AC.region (hP : POk P) (hX : XOk P X) {call : Caller} (hc : COk P call) {id : Nat} {ops : Array Oper} {d : Bool} {ρ ρ' : Fm} {h' : H} {Q : AX → Fm → H → Prop}
    (hx : bc d (runDraw P X call ops.toList ρ h) (runOps P X call ops.toList ops.toList ρ h) = some (ρ', h')) (hq : Q .normal ρ' h') : AC P (.region id ops d) ρ h Q := by
  intro β w a f g s K hK
  cases d with
  | false =>
    rw [bc_false] at hx
    refine wp_region (runOps_ok hP hX hc ops.toList _ ?_ ρ h ρ' h' hx β w a f g s fun β' w' a' f' s' k' => hK _ _ _ _ _ _ hq f' s' k')
    apply List.ext_getElem?
    intro i
    simp only [List.getElem?_map]
    by_cases hi : i < ops.size
    · simp [hi]
    · simp [hi]
  | true =>
    rw [bc_true] at hx
    refine wp_region_any hP.mixed ?_
    exact draw_ok hP hX _ hc ops ρ h ρ' h' hx β w.drew a K f g s.drew (fun β' w' a' f' s' k' => hK _ _ _ _ _ _ hq f' s' ((Kept.drew β h w).trans k'))

/-- a region whose order is given, operation by operation -/
theorem AC.ops {id : Nat} {ops : Array Oper} {ρ : Fm} {Q : AX → Fm → H → Prop} (hx : AO P ops ops.toList ρ h fun ρ' h' => Q .normal ρ' h') : AC P (.region id ops false) ρ h Q := by
  intro β w a f g s K hK
  refine wp_region (hx _ ?_ β w a f g s _ fun ρ' h' β' w' a' q f' s' k' => hK _ _ _ _ _ _ q f' s' k')
  apply List.ext_getElem?
  intro i
  simp only [List.getElem?_map]
  by_cases hi : i < ops.size
  · simp [hi]
  · simp [hi]

theorem AO.nil {ops : Array Oper} {ρ : Fm} {Q : Fm → H → Prop} (hq : Q ρ h) : AO P ops [] ρ h Q := by
  intro is his β w a f g s K hK
  have : is = [] := by simpa using his
  subst this
  exact hK _ _ _ _ _ hq f s (Kept.refl ..)

theorem AO.op (hP : POk P) (hX : XOk P X) {ops : Array Oper} {o : Oper} {l : List Oper} {ρ ρ' : Fm} {v : AV} {h' : H} {Q : Fm → H → Prop} (hw : wantedA ops.toList ρ o.guard = some true)
    (he : exec P X (ev P ρ) h o.op = some (.val v h')) (hp : putT ρ o.dst v = some ρ') (hl : AO P ops l ρ' h' Q) : AO P ops (o :: l) ρ h Q := by
  intro is his β w a f g s K hK
  cases is with
  | nil => simp at his
  | cons i is =>
    simp only [List.map_cons, List.cons.injEq] at his
    obtain ⟨hi, his⟩ := his
    simp only [wpOps, hi]
    rw [wanted_ok f hw]
    simp only [if_true]
    refine .inl (wp_exec (call := fun _ _ _ => none) (k := fun v h => some (v, h)) hP hX (fun _ _ _ _ _ e => by cases e) f g s he rfl ?_)
    intro v1 h1 β1 w1 cv hk hv s1 k1
    cases hk
    exact hl is his β1 w1 _ ((f.mono k1.ext).put hp hv) (g.kept k1) s1 K fun ρ2 h2 β2 w2 a2 q f2 s2 k2 => hK _ _ _ _ _ q f2 s2 (k1.trans k2)

theorem AO.call (hP : POk P) (hX : XOk P X) {ops : Array Oper} {o : Oper} {l : List Oper} {ρ : Fm} {f : FuncId} {args : List AV} {h' : H} {R : AV → H → Prop} {Q : Fm → H → Prop} (hw : wantedA ops.toList ρ o.guard = some true)
    (he : exec P X (ev P ρ) h o.op = some (.call f args h')) (hc : ACall P f args h' R) (hl : ∀ v h2, R v h2 → ∃ ρ', putT ρ o.dst v = some ρ' ∧ AO P ops l ρ' h2 Q) : AO P ops (o :: l) ρ h Q := by
  intro is his β w a fr g s K hK
  cases is with
  | nil => simp at his
  | cons i is =>
    simp only [List.map_cons, List.cons.injEq] at his
    obtain ⟨hi, his⟩ := his
    simp only [wpOps, hi]
    rw [wanted_ok fr hw]
    simp only [if_true]
    refine .inl ?_
    have hok := exec_ok (η := a.eval) (o := o) hP hX s (fr.ev g) he
    obtain ⟨rfl, cargs, e1, hargs⟩ := hok
    unfold Oper.wp
    rw [e1, Oper.upon_enter]
    refine Calls.mono (hc β w cargs g s hargs) ?_
    rintro e w1 ⟨v, h2, β1, cv, hr, rfl, hv, s1, k1⟩
    obtain ⟨ρ', hp, hao⟩ := hl v h2 hr
    exact hao is his β1 w1 _ ((fr.mono k1.ext).put hp hv) (g.kept k1) s1 K fun ρ3 h3 β3 w3 a3 q f3 s3 k3 => hK _ _ _ _ _ q f3 s3 (k1.trans k3)

theorem AO.skip {ops : Array Oper} {o : Oper} {l : List Oper} {ρ ρ' : Fm} {Q : Fm → H → Prop} (hw : wantedA ops.toList ρ o.guard = some false)
    (hp : putT ρ o.dst undef = some ρ') (hl : AO P ops l ρ' h Q) : AO P ops (o :: l) ρ h Q := by
  intro is his β w a f g s K hK
  cases is with
  | nil => simp at his
  | cons i is =>
    simp only [List.map_cons, List.cons.injEq] at his
    obtain ⟨hi, his⟩ := his
    simp only [wpOps, hi]
    rw [wanted_ok f hw]
    simp only [Bool.false_eq_true, if_false]
    exact hl is his β w _ (f.put hp (VR_undef β)) g s K hK

end Go.Ab
