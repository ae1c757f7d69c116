/- A region that draws its order: what the run in one order tells. -/
import Derived.Test.YtleafkdgnlngmaaGreatDoorAbPar
namespace Go.Ab
open Go
variable {P : Program} {X : Ext} {call : Caller} {ops : List Oper} {pre : List Nat} {base : Nat}

theorem kind_cases (o : Op) : kindOf P o = 0 ∨ kindOf P o = 1 ∨ kindOf P o = 2 := by
  cases o <;> first
    | exact .inl rfl
    | exact .inr (.inl rfl)
    | exact .inr (.inr rfl)
    | (simp only [kindOf]; split <;> first | exact .inl rfl | exact .inr (.inl rfl) | exact .inr (.inr rfl))

structure StepF (P : Program) (X : Ext) (call : Caller) (ops : List Oper) (pre : List Nat) (base i : Nat) (s s' : DS) (o : Oper) (pi : Nat) (v : AV) (w : Bool) : Prop where
  op : ops[i]? = some o
  pr : pre[i]? = some pi
  new : Nat.testBit s.done i = false
  sub : ∀ j, Nat.testBit pi j = true → Nat.testBit s.done j = true
  want : wantedA ops s.ρ o.guard = some w
  put : putT s.ρ o.dst v = some s'.ρ
  done : s'.done = s.done ||| 2 ^ i
  kind : (kindOf P o.op = 2 ∧ s.effs = i :: s'.effs ∧ (∀ q ∈ s.ended, Nat.testBit pi q.1 = true) ∧ s'.ended = (i, s.cur) :: s.ended ∧ s'.cur = s'.h ∧
      ((w = true ∧ ∃ r, exec P X (ev P s.ρ) s.h o.op = some r ∧ after call r (fun v h => some (v, h)) = some (v, s'.h)) ∨ (w = false ∧ v = undef ∧ s'.h = s.h)))
    ∨ (kindOf P o.op ≠ 2 ∧ s'.effs = s.effs ∧ s'.ended = s.ended ∧ s'.cur = s.cur ∧ needOk pre s.effs i = true ∧
      ((w = false ∧ v = undef ∧ s'.h = s.h) ∨ (w = true ∧ kindOf P o.op = 1 ∧ ∃ h', exec P X (ev P s.ρ) (backNext (base + i) s.h) o.op = some (.val v h') ∧ s'.h = backNext s.h.next h')
        ∨ (w = true ∧ kindOf P o.op = 0 ∧ s'.h = s.h ∧ (∃ h', exec P X (ev P s.ρ) s.cur o.op = some (.val v h')) ∧
          ∀ q ∈ s.ended, Nat.testBit pi q.1 = false → ∃ h', exec P X (ev P s.ρ) q.2 o.op = some (.val v h'))))

theorem valOf_eq {α : Type} {r : R} {k : AV → H → Option α} {x : α} (h : valOf r k = some x) : ∃ v h', r = .val v h' ∧ k v h' = some x := by
  cases r with
  | val v h' => exact ⟨v, h', rfl, h⟩
  | call f a h' => cases h

theorem after_eq {α : Type} {r : R} {k : AV → H → Option α} {x : α} (h : after call r k = some x) : ∃ v h', after call r (fun v h => some (v, h)) = some (v, h') ∧ k v h' = some x := by
  cases r with
  | val v h' => exact ⟨v, h', rfl, h⟩
  | call f a h1 =>
    have h' : ob (call f a h1) (fun p => k p.1 p.2) = some x := h
    rw [ob_eq] at h'
    obtain ⟨p, hp, hk⟩ := h'
    refine ⟨p.1, p.2, ?_, hk⟩
    show ob (call f a h1) (fun p => some (p.1, p.2)) = some (p.1, p.2)
    rw [hp]; rfl

theorem stableE_eq {ε : Env} {o : Op} {v : AV} {pi : Nat} : ∀ {hs : List (Nat × H)}, stableE P X ε o v pi hs = true → ∀ q ∈ hs, Nat.testBit pi q.1 = false → ∃ h', exec P X ε q.2 o = some (.val v h')
  | [], _, q, hq, _ => by cases hq
  | q0 :: hs, h, q, hq, hb => by
    have h' : bc (Nat.testBit pi q0.1) (stableE P X ε o v pi hs) (Option.casesOn (motive := fun _ => Bool) (exec P X ε q0.2 o) false (fun r => R.casesOn r (fun v' _ => bc (avEq v v') (stableE P X ε o v pi hs) false) (fun _ _ _ => false))) = true := h
    have hrest : stableE P X ε o v pi hs = true ∧ (Nat.testBit pi q0.1 = false → ∃ h', exec P X ε q0.2 o = some (.val v h')) := by
      cases ht : Nat.testBit pi q0.1 with
      | true => rw [ht] at h'; exact ⟨h', fun e => by cases e⟩
      | false =>
        rw [ht, bc_false] at h'
        cases hx : exec P X ε q0.2 o with
        | none => rw [hx] at h'; cases h'
        | some r =>
          rw [hx] at h'
          cases r with
          | call f a h1 => cases h'
          | val v' h1 =>
            have h2 : bc (avEq v v') (stableE P X ε o v pi hs) false = true := h'
            cases he : avEq v v' with
            | false => rw [he] at h2; cases h2
            | true =>
              rw [he] at h2
              have := avEq_sound v v' he
              subst this
              exact ⟨h2, fun _ => ⟨h1, rfl⟩⟩
    rcases List.mem_cons.1 hq with rfl | hq
    · exact hrest.2 hb
    · exact stableE_eq hrest.1 q hq hb

theorem land_sub {a b : Nat} (h : Nat.beq (Nat.land a b) a = true) (j : Nat) (hj : Nat.testBit a j = true) : Nat.testBit b j = true := by
  have h1 : a &&& b = a := beq_t.1 h
  have h2 := Nat.testBit_and a b j
  rw [h1, hj] at h2
  simpa using h2.symm

theorem stepD_F {i : Nat} {s s' : DS} (h : stepD P X call ops pre base i s = some s') : ∃ o pi v w, StepF P X call ops pre base i s s' o pi v w := by
  obtain ⟨ρ, hp, cur, ended, effs, done⟩ := s
  have h0 : ob (nth ops i) (fun o => ob (nth pre i) fun pi => bc (Nat.testBit done i) none (bc (Nat.beq (Nat.land pi done) pi)
    (ob (wantedA ops ρ o.guard) fun w => bc (Nat.beq (kindOf P o.op) 2)
      (List.casesOn effs none fun k effs' => bc (Nat.beq k i) (bc (ended.all fun q => Nat.testBit pi q.1)
        (bc w
          (ob (exec P X (ev P ρ) hp o.op) fun r => after call r fun v h' => ob (putT ρ o.dst v) fun ρ' => some ⟨ρ', h', h', (i, cur) :: ended, effs', Nat.lor done (Nat.pow 2 i)⟩)
          (ob (putT ρ o.dst undef) fun ρ' => some ⟨ρ', hp, hp, (i, cur) :: ended, effs', Nat.lor done (Nat.pow 2 i)⟩)) none) none)
      (bc (needOk pre effs i)
        (bc w
          (bc (Nat.beq (kindOf P o.op) 1)
            (ob (exec P X (ev P ρ) (backNext (Nat.add base i) hp) o.op) fun r => valOf r fun v h' => ob (putT ρ o.dst v) fun ρ' => some ⟨ρ', backNext hp.next h', cur, ended, effs, Nat.lor done (Nat.pow 2 i)⟩)
            (ob (exec P X (ev P ρ) cur o.op) fun r => valOf r fun v _ => bc (stableE P X (ev P ρ) o.op v pi ended) (ob (putT ρ o.dst v) fun ρ' => some ⟨ρ', hp, cur, ended, effs, Nat.lor done (Nat.pow 2 i)⟩) none))
          (ob (putT ρ o.dst undef) fun ρ' => some ⟨ρ', hp, cur, ended, effs, Nat.lor done (Nat.pow 2 i)⟩))
        none)) none)) = some s' := h
  simp only [ob_eq (f := fun o : Oper => _), nth_eq] at h0
  obtain ⟨o, ho, h0⟩ := h0
  rw [ob_eq] at h0
  obtain ⟨pi, hpi, h0⟩ := h0
  rw [bc_some, bc_none, ob_eq] at h0
  obtain ⟨hnew, hsub, w, hw, h0⟩ := h0
  have mk : ∀ {v : AV} {s' : DS}, putT ρ o.dst v = some s'.ρ → s'.done = Nat.lor done (Nat.pow 2 i) → _ → ∃ o pi v w, StepF P X call ops pre base i ⟨ρ, hp, cur, ended, effs, done⟩ s' o pi v w :=
    fun {v s'} a b c => ⟨o, pi, v, w, ho, hpi, hnew, fun j hj => land_sub hsub j hj, hw, a, b, c⟩
  cases hk : Nat.beq (kindOf P o.op) 2 with
  | true =>
    rw [hk, bc_true] at h0
    have hk' := beq_t.1 hk
    cases effs with
    | nil => cases h0
    | cons k effs =>
      have h1 : bc (Nat.beq k i) (bc (ended.all fun q => Nat.testBit pi q.1)
        (bc w
          (ob (exec P X (ev P ρ) hp o.op) fun r => after call r fun v h' => ob (putT ρ o.dst v) fun ρ' => some (⟨ρ', h', h', (i, cur) :: ended, effs, Nat.lor done (Nat.pow 2 i)⟩ : DS))
          (ob (putT ρ o.dst undef) fun ρ' => some ⟨ρ', hp, hp, (i, cur) :: ended, effs, Nat.lor done (Nat.pow 2 i)⟩)) none) none = some s' := h0
      rw [bc_none, bc_none] at h1
      obtain ⟨hki, hall, h1⟩ := h1
      have := beq_t.1 hki
      subst this
      have hall' : ∀ q ∈ ended, Nat.testBit pi q.1 = true := by simpa using hall
      cases w with
      | true =>
        rw [bc_true, ob_eq] at h1
        obtain ⟨r, hr, h1⟩ := h1
        obtain ⟨v, h', ha, h1⟩ := after_eq h1
        rw [ob_eq] at h1
        obtain ⟨ρ', hρ, h1⟩ := h1
        cases h1
        exact mk hρ rfl (.inl ⟨hk', rfl, hall', rfl, rfl, .inl ⟨rfl, r, hr, ha⟩⟩)
      | false =>
        rw [bc_false, ob_eq] at h1
        obtain ⟨ρ', hρ, h1⟩ := h1
        cases h1
        exact mk hρ rfl (.inl ⟨hk', rfl, hall', rfl, rfl, .inr ⟨rfl, rfl, rfl⟩⟩)
  | false =>
    rw [hk, bc_false, bc_none] at h0
    obtain ⟨hneed, h0⟩ := h0
    have hk' := beq_f.1 hk
    cases w with
    | false =>
      rw [bc_false, ob_eq] at h0
      obtain ⟨ρ', hρ, h1⟩ := h0
      cases h1
      exact mk hρ rfl (.inr ⟨hk', rfl, rfl, rfl, hneed, .inl ⟨rfl, rfl, rfl⟩⟩)
    | true =>
      rw [bc_true] at h0
      cases hk1 : Nat.beq (kindOf P o.op) 1 with
      | true =>
        rw [hk1, bc_true, ob_eq] at h0
        obtain ⟨r, hr, h0⟩ := h0
        obtain ⟨v, h', er, h2⟩ := valOf_eq h0
        subst er
        simp only [ob_eq] at h2
        obtain ⟨ρ', hρ, h1⟩ := h2
        cases h1
        exact mk hρ rfl (.inr ⟨hk', rfl, rfl, rfl, hneed, .inr (.inl ⟨rfl, beq_t.1 hk1, h', hr, rfl⟩)⟩)
      | false =>
        rw [hk1, bc_false, ob_eq] at h0
        obtain ⟨r, hr, h0⟩ := h0
        obtain ⟨v, h', er, h2⟩ := valOf_eq h0
        subst er
        simp only [bc_none, ob_eq] at h2
        obtain ⟨hst, ρ', hρ, h1⟩ := h2
        cases h1
        have h00 : kindOf P o.op = 0 := by
          rcases kind_cases (P := P) o.op with h | h | h
          · exact h
          · exact absurd h (beq_f.1 hk1)
          · exact absurd h hk'
        exact mk hρ rfl (.inr ⟨hk', rfl, rfl, rfl, hneed, .inr (.inr ⟨rfl, h00, rfl, ⟨h', hr⟩, fun q hq hb => stableE_eq hst q hq hb⟩)⟩)

theorem foldD_st (f : Nat → DS → Option DS) : ∀ (l : List Nat) (s s' : DS), foldD f l s = some s' → ∃ st : Nat → DS, st 0 = s ∧ (∀ p i, l[p]? = some i → f i (st p) = some (st (p + 1))) ∧ st l.length = s'
  | [], s, s', h => by
    have h' : some s = some s' := h
    cases h'
    exact ⟨fun _ => s, rfl, fun p i hp => by simp at hp, rfl⟩
  | i :: l, s, s', h => by
    have h' : ob (f i s) (foldD f l) = some s' := h
    rw [ob_eq] at h'
    obtain ⟨s1, h1, h2⟩ := h'
    obtain ⟨st, g0, g1, g2⟩ := foldD_st f l s1 s' h2
    refine ⟨fun p => match p with | 0 => s | p + 1 => st p, rfl, fun p j hp => ?_, g2⟩
    cases p with
    | zero =>
      simp only [List.getElem?_cons_zero, Option.some.injEq] at hp
      subst hp
      show f i s = some (st 0)
      rw [g0]; exact h1
    | succ p =>
      simp only [List.getElem?_cons_succ] at hp
      exact g1 p j hp

theorem maker_shape {ε : Env} {o : Op} {v : AV} {h h' : H} (hk : kindOf P o = 1) (he : exec P X ε h o = some (.val v h')) : ∃ obj, h' = h.new obj := by
  cases o <;> first
    | (exfalso; simp only [kindOf] at hk; first | (cases hk; done) | (split at hk <;> first | (cases hk; done) | (split at hk <;> cases hk; done)))
    | skip
  · rename_i e
    have he' : e_alloc e P X ε h = some (.val v h') := he
    simp only [e_alloc, ob_eq, Option.some.injEq, R.val.injEq] at he'
    obtain ⟨z, _, _, rfl⟩ := he'
    exact ⟨_, rfl⟩
  · rename_i t x
    have he' : e_box t x P X ε h = some (.val v h') := he
    simp only [e_box, ob_eq, Option.some.injEq, R.val.injEq] at he'
    obtain ⟨z, _, _, rfl⟩ := he'
    exact ⟨_, rfl⟩
  · rename_i t n ps
    have he' : e_buildSlice t n ps P X ε h = some (.val v h') := he
    simp only [e_buildSlice, ob_eq, bc_none, newSl, Option.some.injEq, R.val.injEq] at he'
    obtain ⟨_, _, _, _, _, _, _, _, _, _, rfl⟩ := he'
    exact ⟨_, rfl⟩
  · rename_i t q
    have he' : e_makeMap t q P X ε h = some (.val v h') := he
    simp only [e_makeMap, bc_none, Option.some.injEq, R.val.injEq] at he'
    obtain ⟨_, _, rfl⟩ := he'
    exact ⟨_, rfl⟩
  · rename_i t l c
    have he' : e_makeSlice t l c P X ε h = some (.val v h') := he
    simp only [e_makeSlice, ob_eq, bc_none, newSl, Option.some.injEq, R.val.injEq] at he'
    obtain ⟨_, _, _, _, _, _, _, _, _, _, _, _, _, _, _, rfl⟩ := he'
    exact ⟨_, rfl⟩

end Go.Ab
