/- What the evaluator says of a region in its order, of code and of a call holds of the model's. -/
import Derived.Test.YtleafkdgnlngmaaGreatDoorAbExec
import Derived.Orders
import Derived.Laws.Sem
namespace Go.Ab
open Go
variable [Th]
variable {P : Program} {X : Ext} {S : Specs} {β : Bet} {h : H} {w : World}

def GOk (P : Program) (β : Bet) : Prop := ∀ g, g < P.globals.size → ∃ sz, β g = some (g, 0, sz)

omit [Th] in
theorem GOk.kept {β' : Bet} {h' : H} {w' : World} (g : GOk P β) (k : Kept β h w β' h' w') : GOk P β' :=
  fun i hi => let ⟨sz, e⟩ := g i hi; ⟨sz, k.ext _ _ e⟩

structure FrR (β : Bet) (ρ : Fm) (a : Act) : Prop where
  n : Fm.n ρ = a.tmps.size
  t : ∀ t v, tget ρ t = some v → VR β v (a.tmps.getD t Go.undef)
  d : a.defers = []

theorem FrR.mono {β' : Bet} {ρ : Fm} {a : Act} (f : FrR β ρ a) (h : ∀ b r, β b = some r → β' b = some r) : FrR β' ρ a :=
  ⟨f.n, fun t v ht => VR.mono h _ _ (f.t t v ht), f.d⟩

theorem FrR.ev {ρ : Fm} {a : Act} (f : FrR β ρ a) (g : GOk P β) : ∀ x v, Go.Ab.ev P ρ x = some v → VR β v (a.eval x) := by
  intro x v hv
  cases x with
  | tmp t => exact f.t t v hv
  | const c => exact ofVal_VR β c v hv
  | global i =>
    have hv' : bc (Nat.blt i P.globals.size) (some (AV.ptr i 0)) none = some v := hv
    rw [bc_none, blt_t, Option.some.injEq] at hv'
    obtain ⟨hi, rfl⟩ := hv'
    obtain ⟨sz, e⟩ := g i hi
    exact ⟨i, 0, sz, e, rfl⟩
  | func i =>
    have hv' : some (AV.fn i [] []) = some v := hv
    simp only [Option.some.injEq] at hv'
    subst hv'
    simp only [VR]
    exact ⟨#[], #[], rfl, rfl, rfl⟩

theorem VR_undef (β : Bet) : VR β undef Go.undef := by
  show VR β (.tup []) (.tuple #[])
  simp only [VR]
  exact ⟨#[], rfl, rfl⟩

theorem FrR.put {ρ ρ' : Fm} {a : Act} (f : FrR β ρ a) {dst : Option Tmp} {v : AV} {cv : Value} (hp : putT ρ dst v = some ρ') (hv : VR β v cv) : FrR β ρ' (a.put dst cv) := by
  cases dst with
  | none =>
    have : some ρ = some ρ' := hp
    cases this
    exact f
  | some d =>
    obtain ⟨n, t⟩ := ρ
    have hp' : bc (Nat.blt d n) (some (⟨n, Tr.set t d (some v)⟩ : Fm)) none = some ρ' := hp
    rw [bc_none, blt_t, Option.some.injEq] at hp'
    obtain ⟨hd, rfl⟩ := hp'
    have hn : n = a.tmps.size := f.n
    refine ⟨by simp only [Act.put, Array.size_setIfInBounds]; exact hn, fun i u hi => ?_, f.d⟩
    have hi' : (Tr.set t d (some v)).get i = some u := hi
    rw [Tr.get_set] at hi'
    simp only [Act.put]
    by_cases h : d = i
    · rw [if_pos h] at hi'
      cases hi'
      subst h
      have : (a.tmps.setIfInBounds d cv).getD d Go.undef = cv := by
        rw [Array.getD_eq_getD_getElem?, Array.getElem?_setIfInBounds]
        simp [hn ▸ hd]
      rw [this]
      exact hv
    · rw [if_neg h] at hi'
      have : (a.tmps.setIfInBounds d cv).getD i Go.undef = a.tmps.getD i Go.undef := by
        rw [Array.getD_eq_getD_getElem?, Array.getD_eq_getD_getElem?, Array.getElem?_setIfInBounds, if_neg h]
      rw [this]
      exact f.t i u hi'

def Post (β : Bet) (h : H) (w : World) (v : AV) (h' : H) : Ending → World → Prop :=
  fun e w' => ∃ β' cv, e = .returned cv ∧ VR β' v cv ∧ Sim β' h' w' ∧ Kept β h w β' h' w'

def COk (P : Program) (call : Caller) : Prop := ∀ f args h v h', call f args h = some (v, h') →
  ∀ β w (cargs : Array Value), GOk P β → Sim β h w → VRs β args cargs.toList → Calls P f cargs w (Post β h w v h')

def SOk (P : Program) (S : Specs) : Prop := ∀ f g, S f = some g → ∀ args h v h', g f args h = some (v, h') →
  ∀ β w (cargs : Array Value), GOk P β → Sim β h w → VRs β args cargs.toList → Calls P f cargs w (Post β h w v h')

theorem wp_exec {call : Caller} {α : Type} {ρ : Fm} {a : Act} {o : Oper} {r : R} {k : AV → H → Option α} {out : α} (hP : POk P) (hX : XOk P X) (hc : COk P call)
    (f : FrR β ρ a) (g : GOk P β) (s : Sim β h w) (he : exec P X (ev P ρ) h o.op = some r) (hk : after call r k = some out) {next : Act → World → Prop} {Q : Exit → Act → World → Prop}
    (hn : ∀ v h' β' w' cv, k v h' = some out → VR β' v cv → Sim β' h' w' → Kept β h w β' h' w' → next (a.put o.dst cv) w') : o.wp P a w next Q := by
  have hok := exec_ok (η := a.eval) (o := o) hP hX s (f.ev g) he
  unfold Oper.wp
  cases r with
  | val v h' =>
    obtain ⟨β', w', s', kp, hh⟩ := hok
    rcases hh with ⟨cv, e1, hv⟩ | ⟨e1, rfl⟩
    · rw [e1, Oper.upon_value]
      exact hn v h' β' w' cv hk hv s' kp
    · rw [e1, Oper.upon_skip]
      exact hn undef h' β' w' Go.undef hk (VR_undef β') s' kp
  | call fid args h' =>
    obtain ⟨rfl, cargs, e1, hargs⟩ := hok
    have hk' : ob (call fid args h') (fun p => k p.1 p.2) = some out := hk
    rw [ob_eq] at hk'
    obtain ⟨⟨v, h2⟩, hcall, hk'⟩ := hk'
    rw [e1, Oper.upon_enter]
    refine Calls.mono (hc _ _ _ _ _ hcall β w cargs g s hargs) ?_
    rintro e w' ⟨β', cv, rfl, hv, s', kp⟩
    exact hn v h2 β' w' cv hk' hv s' kp

theorem wanted_ok {ρ : Fm} {a : Act} {ops : Array Oper} {o : Oper} {b : Bool} (f : FrR β ρ a) (hw : wantedA ops.toList ρ o.guard = some b) : Region.wanted o (yielded ops a.tmps) = b := by
  unfold Region.wanted
  cases hg : o.guard with
  | none =>
    rw [hg] at hw
    have : some true = some b := hw
    cases this
    rfl
  | some q =>
    obtain ⟨j, want⟩ := q
    rw [hg] at hw
    have hw' : ob (guardTmp ops.toList j) (fun d => ob (tget ρ d) fun v => wants want v) = some b := hw
    simp only [ob_eq] at hw'
    obtain ⟨d, hd, v, hv, hb⟩ := hw'
    simp only [guardTmp, ob_eq, nth_eq] at hd
    obtain ⟨oj, hj, hd⟩ := hd
    rw [Array.getElem?_toList] at hj
    have hr := f.t d v hv
    simp only [yielded, hj, hd, Option.bind_some]
    rw [Array.getD_eq_getD_getElem?] at hr
    have hnb : ∀ cv : Value, (∀ x, cv ≠ .bool x) → a.tmps[d]?.getD Go.undef = cv → (match a.tmps[d]? with | some (.bool b) => some b | _ => none) = none := by
      intro cv hcv e
      cases ht : a.tmps[d]? with
      | none => rfl
      | some u =>
        rw [ht] at e
        simp only [Option.getD_some] at e
        subst e
        cases u <;> first | rfl | exact absurd rfl (hcv _)
    have hfalse : (∀ x, a.tmps[d]?.getD Go.undef ≠ .bool x) → b = false → ((match a.tmps[d]? with | some (.bool b) => some b | _ => none) == some want) = b := by
      intro h1 h2
      rw [hnb _ h1 rfl, h2]; rfl
    cases v with
    | bool c =>
      have hb' : some (Bool.casesOn (motive := fun _ => Bool) want (not c) c) = some b := hb
      have hr' : a.tmps[d]?.getD Go.undef = .bool c := hr
      cases ht : a.tmps[d]? with
      | none => rw [ht] at hr'; cases hr'
      | some u =>
        rw [ht] at hr'
        simp only [Option.getD_some] at hr'
        subst hr'
        cases want <;> cases c <;> simp_all
    | junk _ => cases hb
    | int _ _ => exact hfalse (fun x e => by rw [e] at hr; simp [VR] at hr) (by cases hb; rfl)
    | str _ => exact hfalse (fun x e => by rw [e] at hr; simp [VR] at hr) (by cases hb; rfl)
    | nilp => exact hfalse (fun x e => by rw [e] at hr; simp [VR] at hr) (by cases hb; rfl)
    | ptr _ _ => exact hfalse (fun x e => by rw [e] at hr; simp [VR] at hr) (by cases hb; rfl)
    | nils => exact hfalse (fun x e => by rw [e] at hr; simp [VR] at hr) (by cases hb; rfl)
    | sl _ _ _ _ _ _ => exact hfalse (fun x e => by rw [e] at hr; simp [VR] at hr) (by cases hb; rfl)
    | sl0 => exact hfalse (fun x e => by rw [e] at hr; simp [VR] at hr) (by cases hb; rfl)
    | nilm => exact hfalse (fun x e => by rw [e] at hr; simp [VR] at hr) (by cases hb; rfl)
    | map _ => exact hfalse (fun x e => by rw [e] at hr; simp [VR] at hr) (by cases hb; rfl)
    | nilf => exact hfalse (fun x e => by rw [e] at hr; simp [VR] at hr) (by cases hb; rfl)
    | fn _ _ _ => exact hfalse (fun x e => by rw [e] at hr; simp [VR] at hr) (by cases hb; rfl)
    | nili => exact hfalse (fun x e => by rw [e] at hr; simp [VR] at hr) (by cases hb; rfl)
    | ifc _ _ => exact hfalse (fun x e => by rw [e] at hr; simp [VR] at hr) (by cases hb; rfl)
    | agg _ => exact hfalse (fun x e => by rw [e] at hr; simp [VR] at hr) (by cases hb; rfl)
    | tup _ => exact hfalse (fun x e => by rw [e] at hr; simp [VR] at hr) (by cases hb; rfl)

omit [Th] in
theorem runOps_cons {call : Caller} {ops l : List Oper} {o : Oper} {ρ : Fm} {h : H} : runOps P X call ops (o :: l) ρ h =
    ob (wantedA ops ρ o.guard) fun w => bc w
      (ob (exec P X (ev P ρ) h o.op) fun r => after call r fun v h => ob (putT ρ o.dst v) fun ρ => runOps P X call ops l ρ h)
      (ob (putT ρ o.dst undef) fun ρ => runOps P X call ops l ρ h) := rfl

theorem runOps_ok {call : Caller} (hP : POk P) (hX : XOk P X) (hc : COk P call) {ops : Array Oper} {Q : Exit → Act → World → Prop} : ∀ (l : List Oper) (is : List Nat), is.map (ops[·]?) = l.map some →
    ∀ (ρ : Fm) (h : H) (ρ' : Fm) (h' : H), runOps P X call ops.toList l ρ h = some (ρ', h') → ∀ (β : Bet) (w : World) (a : Act), FrR β ρ a → GOk P β → Sim β h w →
    (∀ β' w' a', FrR β' ρ' a' → Sim β' h' w' → Kept β h w β' h' w' → Q .normal a' w') → wpOps P ops Q is a w
  | [], is, his, ρ, h, ρ', h', hr, β, w, a, f, g, s, hq => by
    have : is = [] := by simpa using his
    subst this
    have hr' : some (ρ, h) = some (ρ', h') := hr
    cases hr'
    exact hq β w a f s (Kept.refl ..)
  | o :: l, [], his, _, _, _, _, _, _, _, _, _, _, _, _ => by simp at his
  | o :: l, i :: is, his, ρ, h, ρ', h', hr, β, w, a, f, g, s, hq => by
    simp only [List.map_cons, List.cons.injEq] at his
    obtain ⟨hi, his⟩ := his
    rw [runOps_cons, ob_eq] at hr
    obtain ⟨b, hw, hr⟩ := hr
    simp only [wpOps, hi]
    rw [wanted_ok f hw]
    cases b with
    | true =>
      rw [bc_true, ob_eq] at hr
      obtain ⟨r, he, hr⟩ := hr
      simp only [if_true]
      refine .inl (wp_exec hP hX hc f g s he hr ?_)
      intro v h1 β1 w1 cv hk hv s1 k1
      rw [ob_eq] at hk
      obtain ⟨ρ1, hp, hk⟩ := hk
      exact runOps_ok hP hX hc l is his ρ1 h1 ρ' h' hk β1 w1 _ ((f.mono k1.ext).put hp hv) (g.kept k1) s1 (fun β2 w2 a2 f2 s2 k2 => hq β2 w2 a2 f2 s2 (k1.trans k2))
    | false =>
      rw [bc_false, ob_eq] at hr
      obtain ⟨ρ1, hp, hr⟩ := hr
      simp only [Bool.false_eq_true, if_false]
      exact runOps_ok hP hX hc l is his ρ1 h ρ' h' hr β w _ (f.put hp (VR_undef β)) g s hq

/-- what the evaluator says of a region that draws its order holds of the model's -/
def DrawOk (P : Program) (X : Ext) : Prop := ∀ call, COk P call → ∀ (ops : Array Oper) (ρ : Fm) (h : H) (ρ' : Fm) (h' : H), runDraw P X call ops.toList ρ h = some (ρ', h') →
  ∀ (β : Bet) (w : World) (a : Act) (Q : Exit → Act → World → Prop), FrR β ρ a → GOk P β → Sim β h w →
  (∀ β' w' a', FrR β' ρ' a' → Sim β' h' w' → Kept β h w β' h' w' → Q .normal a' w') → wpAny P .any ops Q ops.size (Array.replicate ops.size false) a w

def exOf : AX → Exit
  | .normal => .normal | .exit i => .exit i | .goto l => .goto l | .ret => .ret

/-- a loop that stands at its next round -/
def LWp (P : Program) (c : Code) (Q : Exit → Act → World → Prop) (a : Act) (w : World) : Prop :=
  ∀ (b : Frame) (k : List Item) (cs : List Frame), ∃ e a' w', Q e a' w' ∧ Arrives P (lone (b.at a (.code c :: .inLoop c :: k)) cs w) b k cs e a' w'

omit [Th] in
theorem LWp.next {c : Code} {Q : Exit → Act → World → Prop} {a : Act} {w : World} (h : c.wp P (Exit.then (LWp P c Q) Q) a w) : LWp P c Q a w := by
  intro b k cs
  obtain ⟨e, a₁, w₁, hq, harr⟩ := h b (.inLoop c :: k) cs
  cases e with
  | normal =>
    obtain ⟨e₂, a₂, w₂, hq₂, harr₂⟩ := hq b k cs
    exact ⟨e₂, a₂, w₂, hq₂, .of_steps (Steps.trans harr (.one step_inLoop)) harr₂⟩
  | exit id => exact ⟨_, a₁, w₁, hq, .pass (x := .inLoop c) rfl (fun _ _ => .inl (by simp)) harr⟩
  | goto l => exact ⟨_, a₁, w₁, hq, .pass (x := .inLoop c) rfl (fun _ _ => .inl (by simp)) harr⟩
  | ret => exact ⟨_, a₁, w₁, hq, .pass (x := .inLoop c) rfl (fun _ _ => .inl (by simp)) harr⟩
  | panic ch => exact ⟨_, a₁, w₁, hq, .pass (x := .inLoop c) rfl (fun _ _ => .inl (by simp)) harr⟩
  | outgrown => exact ⟨_, a₁, w₁, hq, .pass (x := .inLoop c) rfl (fun _ _ => .inl (by simp)) harr⟩

omit [Th] in
theorem LWp.loop {c : Code} {Q : Exit → Act → World → Prop} {a : Act} {w : World} (h : LWp P c Q a w) : (Code.loop c).wp P Q a w := by
  intro b k cs
  obtain ⟨e, a', w', hq, harr⟩ := h b k cs
  exact ⟨e, a', w', hq, .of_steps (.one step_loop) harr⟩

/-- of a loop: that it stands at its first round; of all else: that it begins -/
def wpL (P : Program) (c : Code) (Q : Exit → Act → World → Prop) (a : Act) (w : World) : Prop :=
  match c with
  | .loop b => LWp P b Q a w
  | c => c.wp P Q a w

omit [Th] in
theorem wpL.wp {c : Code} {Q : Exit → Act → World → Prop} {a : Act} {w : World} (h : wpL P c Q a w) : c.wp P Q a w := by
  cases c <;> first | exact h | exact LWp.loop h

def RunOk (P : Program) (run : Code → Fm → H → CR) : Prop := ∀ c ρ h e ρ' h', run c ρ h = some (e, ρ', h') → ∀ (β : Bet) (w : World) (a : Act), FrR β ρ a → GOk P β → Sim β h w →
  ∀ Q : Exit → Act → World → Prop, (∀ β' w' a', FrR β' ρ' a' → Sim β' h' w' → Kept β h w β' h' w' → Q (exOf e) a' w') → wpL P c Q a w

omit [Th] in
theorem run_mapM {α : Type} (F : α → Sem Value) (w : World) : ∀ (l : List α) (vs : List Value), l.length = vs.length → (∀ (i : Nat) x v, l[i]? = some x → vs[i]? = some v → (F x).run P w = .ok v w) →
    (l.mapM F).run P w = .ok vs w
  | [], [], _, _ => rfl
  | [], _ :: _, h, _ => by simp at h
  | _ :: _, [], h, _ => by simp at h
  | x :: l, v :: vs, h, hf => by
    rw [List.mapM_cons]
    have h1 := hf 0 x v rfl rfl
    have h2 := run_mapM F w l vs (by simpa using h) (fun i x v hx hv => hf (i + 1) x v (by simpa using hx) (by simpa using hv))
    simp [Sem.run_bind, h1, h2]

def resS (a : Act) : ResultVar → Sem Value
  | .tmp t => pure (a.tmps.getD t Go.undef)
  | .cell c t => do loadVar t (← asAddr (a.tmps.getD c Go.undef))

theorem resVs_ok {ρ : Fm} {a : Act} (f : FrR β ρ a) (s : Sim β h w) : ∀ (l : List ResultVar) (vs : List AV), resVs P ρ h l = some vs →
    ∃ cvs : List Value, VRs β vs cvs ∧ (l.mapM (resS a)).run P w = .ok cvs w
  | [], vs, hv => by
    have : some [] = some vs := hv
    cases this
    exact ⟨[], rfl, rfl⟩
  | x :: l, vs, hv => by
    have hv' : ob (resV P ρ h x) (fun v => ob (resVs P ρ h l) fun vs => some (v :: vs)) = some vs := hv
    simp only [ob_eq, Option.some.injEq] at hv'
    obtain ⟨v, hx, vs', hl, rfl⟩ := hv'
    obtain ⟨cvs, g1, g2⟩ := resVs_ok f s l vs' hl
    have hone : ∃ cv, VR β v cv ∧ (resS a x).run P w = .ok cv w := by
      cases x with
      | tmp t => exact ⟨_, f.t t v hx, rfl⟩
      | cell c t =>
        have hx' : ob (tget ρ c) (fun v => ob (asPtr v) fun p => loadT P h t p.1 p.2) = some v := hx
        simp only [ob_eq] at hx'
        obtain ⟨u, hu, p, hp, hx'⟩ := hx'
        have := asPtr_eq hp
        subst this
        obtain ⟨cb, base, sz, hβ, e⟩ := (f.t _ _ hu).ptr
        obtain ⟨cv, k1, k2⟩ := run_loadT (P := P) s hx' hβ
        exact ⟨cv, k2, by simp [resS, e, asAddr, k1]⟩
    obtain ⟨cv, k1, k2⟩ := hone
    refine ⟨cv :: cvs, ⟨_, _, rfl, k1, g1⟩, ?_⟩
    rw [List.mapM_cons, Sem.run_bind, k2]
    simp [g2]

theorem results_ok {ρ : Fm} {a : Act} {fn : Func} {v : AV} (f : FrR β ρ a) (s : Sim β h w) (hv : resultsA P fn ρ h = some v) : ∃ cv, (results fn a.tmps).run P w = .ok cv w ∧ VR β v cv := by
  simp only [resultsA, ob_eq, Option.some.injEq] at hv
  obtain ⟨vs, hvs, rfl⟩ := hv
  obtain ⟨cvs, g1, g2⟩ := resVs_ok f s fn.results.toList vs hvs
  refine ⟨if h : cvs.toArray.size = 1 then cvs.toArray[0] else .tuple cvs.toArray, ?_, ?_⟩
  · have hres : results fn a.tmps = (do
        let vs ← fn.results.mapM (resS a)
        pure (if h : vs.size = 1 then vs[0] else .tuple vs)) := by
      unfold results
      congr 1
    rw [hres, Array.mapM_eq_mapM_toList]
    simp only [Sem.run_bind, map_eq_pure_bind]
    rw [g2]
    simp
  · have hlen := g1.len
    cases vs with
    | nil =>
      have : cvs = [] := by cases cvs; rfl; simp at hlen
      subst this
      show VR β (.tup []) (.tuple #[])
      simp only [VR]
      exact ⟨#[], rfl, rfl⟩
    | cons v vs =>
      obtain ⟨c, cs, rfl, k1, k2⟩ := g1
      cases vs with
      | nil =>
        have : cs = [] := k2
        subst this
        exact k1
      | cons v' vs =>
        obtain ⟨c', cs', rfl, k3, k4⟩ := k2
        show VR β (.tup (v :: v' :: vs)) (if h : (c :: c' :: cs').toArray.size = 1 then _ else .tuple (c :: c' :: cs').toArray)
        rw [dif_neg (by simp)]
        simp only [VR]
        exact ⟨_, rfl, _, _, rfl, k1, _, _, rfl, k3, k4⟩

omit [Th] in
theorem entryT_get : ∀ (args : List AV) (k : Nat) (t : Tr AV) (i : Nat), (entryT args k t).get i = if k ≤ i ∧ i < k + args.length then args[i - k]? else t.get i
  | [], k, t, i => by
    have : ¬ (k ≤ i ∧ i < k + ([] : List AV).length) := by simp only [List.length_nil]; omega
    rw [if_neg this]; rfl
  | v :: args, k, t, i => by
    show (entryT args (k + 1) (Tr.set t k (some v))).get i = _
    rw [entryT_get args (k + 1) _ i, Tr.get_set]
    simp only [List.length_cons]
    by_cases h1 : k + 1 ≤ i ∧ i < k + 1 + args.length
    · rw [if_pos h1, if_pos (by omega)]
      rw [show i - k = (i - (k + 1)) + 1 by omega, List.getElem?_cons_succ]
    · rw [if_neg h1]
      by_cases h2 : k = i
      · subst h2
        rw [if_pos rfl, if_pos (by omega)]
        simp
      · rw [if_neg h2, if_neg (by omega)]

theorem entry_ok {fn : Func} {args : List AV} {ρ : Fm} {cargs : Array Value} (he : entry fn args = some ρ) (hv : VRs β args cargs.toList) :
    FrR β ρ { tmps := cargs ++ Array.replicate (fn.ntmps - cargs.size) Go.undef, defers := [] } := by
  simp only [entry, bc_none, ble_t, Option.some.injEq] at he
  obtain ⟨hle, rfl⟩ := he
  have hlen := hv.len
  have hsz : args.length = cargs.size := by rw [hlen, Array.length_toList]
  refine ⟨by simp; omega, fun t v ht => ?_, rfl⟩
  have ht' : (entryT args 0 .e).get t = some v := ht
  rw [entryT_get, Tr.get_e] at ht'
  by_cases h : 0 ≤ t ∧ t < 0 + args.length
  · rw [if_pos h] at ht'
    obtain ⟨u, k1, k2⟩ := hv.at ht'
    rw [Array.getElem?_toList] at k1
    have hlt : t < cargs.size := by omega
    have : (cargs ++ Array.replicate (fn.ntmps - cargs.size) Go.undef).getD t Go.undef = u := by
      rw [Array.getD_eq_getD_getElem?, Array.getElem?_append_left hlt]
      simp only [Nat.sub_zero] at k1
      rw [k1]; rfl
    rw [this]; exact k2
  · rw [if_neg h] at ht'; cases ht'

theorem callBody_ok {run : Code → Fm → H → CR} (hr : RunOk P run) : COk P (callBody P run) := by
  intro f args h v h' hc β w cargs g s hv
  simp only [callBody, ob_eq, bc_none, Option.some.injEq, Prod.mk.injEq] at hc
  obtain ⟨fn, hf, body, hb, ρ, hρ, ⟨e, ρ1, h1⟩, hrun, hend, v1, hres, rfl, rfl⟩ := hc
  refine calls_of_wp hf hb (wpL.wp (hr body ρ h e ρ1 h1 hrun β w _ (entry_ok hρ hv) g s _ ?_))
  intro β' w' a' f' s' k'
  obtain ⟨cv, k1, k2⟩ := results_ok f' s' hres
  cases e with
  | normal => exact ⟨f'.d, cv, k1, β', cv, rfl, k2, s', k'⟩
  | ret => exact ⟨f'.d, cv, k1, β', cv, rfl, k2, s', k'⟩
  | exit i => cases hend
  | goto l => cases hend

theorem caller_ok {run : Code → Fm → H → CR} (hS : SOk P S) (hr : RunOk P run) : COk P (caller P S run) := by
  intro f args h v h' hc
  cases hf : S f with
  | none =>
    have : caller P S run f args h = callBody P run f args h := by unfold caller; rw [hf]
    rw [this] at hc
    exact callBody_ok hr f args h v h' hc
  | some q =>
    have : caller P S run f args h = q f args h := by unfold caller; rw [hf]
    rw [this] at hc
    exact hS f q hf args h v h' hc

theorem codeT_ok (hP : POk P) (hX : XOk P X) (hS : SOk P S) (hD : DrawOk P X) {run : Code → Fm → H → CR} (hr : RunOk P run) : RunOk P (fun c ρ h => codeT c P X S run ρ h) := by
  intro c ρ h e ρ' h' hc β w a f g s Q hq
  cases c with
  | skip =>
    have : some (AX.normal, ρ, h) = some (e, ρ', h') := hc
    cases this
    exact wp_skip (hq β w a f s (Kept.refl ..))
  | label l =>
    have : some (AX.normal, ρ, h) = some (e, ρ', h') := hc
    cases this
    exact wp_label (hq β w a f s (Kept.refl ..))
  | region id ops d =>
    have hc' : ob (bc d (runDraw P X (caller P S run) ops.toList ρ h) (runOps P X (caller P S run) ops.toList ops.toList ρ h)) (fun x => some (AX.normal, x)) = some (e, ρ', h') := hc
    simp only [ob_eq, Option.some.injEq, Prod.mk.injEq] at hc'
    obtain ⟨x, hx, rfl, rfl⟩ := hc'
    cases d with
    | false =>
      rw [bc_false] at hx
      refine wp_region (runOps_ok hP hX (caller_ok hS hr) ops.toList _ ?_ ρ h ρ' h' hx β w a f g s hq)
      apply List.ext_getElem?
      intro i
      simp only [List.getElem?_map]
      by_cases hi : i < ops.size
      · simp [hi]
      · simp [hi]
    | true =>
      rw [bc_true] at hx
      refine wp_region_any hP.mixed ?_
      exact hD _ (caller_ok hS hr) ops ρ h ρ' h' hx β w.drew a Q f g s.drew (fun β' w' a' f' s' k' => hq β' w' a' f' s' ((Kept.drew β h w).trans k'))
  | seq x y =>
    have hc' : ifNormal (run x ρ h) (fun ρ h => run y ρ h) = some (e, ρ', h') := hc
    simp only [ifNormal, ob_eq] at hc'
    obtain ⟨⟨e1, ρ1, h1⟩, hx, hc'⟩ := hc'
    refine wp_seq (wpL.wp (hr x ρ h e1 ρ1 h1 hx β w a f g s _ ?_))
    intro β1 w1 a1 f1 s1 k1
    cases e1 with
    | normal => exact wpL.wp (hr y ρ1 h1 e ρ' h' hc' β1 w1 a1 f1 (g.kept k1) s1 Q (fun β2 w2 a2 f2 s2 k2 => hq β2 w2 a2 f2 s2 (k1.trans k2)))
    | exit i => rw [hx] at hc'; cases hc'; exact hq β1 w1 a1 f1 s1 k1
    | goto l => rw [hx] at hc'; cases hc'; exact hq β1 w1 a1 f1 s1 k1
    | ret => rw [hx] at hc'; cases hc'; exact hq β1 w1 a1 f1 s1 k1
  | cond q x y =>
    have hc' : ob (ev P ρ q) (fun v => ob (asB v) fun t => bc t (run x ρ h) (run y ρ h)) = some (e, ρ', h') := hc
    simp only [ob_eq] at hc'
    obtain ⟨v, hv, t, ht, hc'⟩ := hc'
    have := asB_eq ht
    subst this
    have he : a.eval q = .bool t := f.ev g _ _ hv
    refine wp_cond he ?_
    cases t with
    | true => exact wpL.wp (hr x ρ h e ρ' h' hc' β w a f g s Q hq)
    | false => exact wpL.wp (hr y ρ h e ρ' h' hc' β w a f g s Q hq)
  | block id b =>
    have hc' : unblock id (run b ρ h) = some (e, ρ', h') := hc
    simp only [unblock, ob_eq] at hc'
    obtain ⟨⟨e1, ρ1, h1⟩, hx, hc'⟩ := hc'
    refine wp_block (wpL.wp (hr b ρ h e1 ρ1 h1 hx β w a f g s _ ?_))
    intro β1 w1 a1 f1 s1 k1
    cases e1 with
    | normal => rw [hx] at hc'; cases hc'; exact hq β1 w1 a1 f1 s1 k1
    | exit i =>
      have hc'' : bc (Nat.beq i id) (some (AX.normal, ρ1, h1)) (run b ρ h) = some (e, ρ', h') := hc'
      rw [hx] at hc''
      by_cases hi : i = id
      · rw [beq_t.2 hi, bc_true] at hc''
        cases hc''
        simp only [exOf, Exit.inBlock, hi, if_true]
        exact hq β1 w1 a1 f1 s1 k1
      · rw [beq_f.2 hi, bc_false] at hc''
        cases hc''
        simp only [exOf, Exit.inBlock, hi, if_false]
        exact hq β1 w1 a1 f1 s1 k1
    | goto l => rw [hx] at hc'; cases hc'; exact hq β1 w1 a1 f1 s1 k1
    | ret => rw [hx] at hc'; cases hc'; exact hq β1 w1 a1 f1 s1 k1
  | loop b =>
    have hc' : ifNormal (run b ρ h) (fun ρ h => run (.loop b) ρ h) = some (e, ρ', h') := hc
    simp only [ifNormal, ob_eq] at hc'
    obtain ⟨⟨e1, ρ1, h1⟩, hx, hc'⟩ := hc'
    refine LWp.next (wpL.wp (hr b ρ h e1 ρ1 h1 hx β w a f g s _ ?_))
    intro β1 w1 a1 f1 s1 k1
    cases e1 with
    | normal => exact hr (.loop b) ρ1 h1 e ρ' h' hc' β1 w1 a1 f1 (g.kept k1) s1 Q (fun β2 w2 a2 f2 s2 k2 => hq β2 w2 a2 f2 s2 (k1.trans k2))
    | exit i => rw [hx] at hc'; cases hc'; exact hq β1 w1 a1 f1 s1 k1
    | goto l => rw [hx] at hc'; cases hc'; exact hq β1 w1 a1 f1 s1 k1
    | ret => rw [hx] at hc'; cases hc'; exact hq β1 w1 a1 f1 s1 k1
  | exit i =>
    have : some (AX.exit i, ρ, h) = some (e, ρ', h') := hc
    cases this
    exact wp_exit (hq β w a f s (Kept.refl ..))
  | ret =>
    have : some (AX.ret, ρ, h) = some (e, ρ', h') := hc
    cases this
    exact wp_ret (hq β w a f s (Kept.refl ..))
  | _ => cases hc

theorem runCode_ok (hP : POk P) (hX : XOk P X) (hS : SOk P S) (hD : DrawOk P X) : ∀ n, RunOk P (runCode P X S n)
  | 0 => by intro c ρ h e ρ' h' hc; cases hc
  | n + 1 => codeT_ok hP hX hS hD (runCode_ok hP hX hS hD n)

/-- what the evaluator says of a call holds of the model's -/
theorem callFn_ok (hP : POk P) (hX : XOk P X) (hS : SOk P S) (hD : DrawOk P X) (n : Nat) : COk P (callFn P X S n) := callBody_ok (runCode_ok hP hX hS hD n)

end Go.Ab
