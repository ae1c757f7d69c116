/- An operation looks at its operands alone; one that neither writes nor makes leaves the heap; what a step leaves alone stays. -/
import Derived.Test.YtleafkdgnlngmaaGreatDoorAbMake
import Derived.Test.YtleafkdgnlngmaaGreatDoorAbCode
namespace Go.Ab
open Go
variable {P : Program} {X : Ext} {β : Bet} {h : H} {w : World}

theorem evs_congr {ε ε' : Env} : ∀ (l : List Operand), (∀ x ∈ l, ε x = ε' x) → evs ε l = evs ε' l
  | [], _ => rfl
  | x :: l, hx => by
    show ob (ε x) (fun v => ob (evs ε l) fun r => some (v :: r)) = ob (ε' x) (fun v => ob (evs ε' l) fun r => some (v :: r))
    rw [hx x (by simp), evs_congr l (fun y hy => hx y (by simp [hy]))]

theorem evParts_congr {ε ε' : Env} : ∀ (l : List (Nat × Operand)), (∀ x ∈ l.map (·.2), ε x = ε' x) → evParts ε l = evParts ε' l
  | [], _ => rfl
  | p :: l, hx => by
    show ob (ε p.2) (fun v => ob (evParts ε l) fun r => some ((p.1, v) :: r)) = ob (ε' p.2) (fun v => ob (evParts ε' l) fun r => some ((p.1, v) :: r))
    rw [hx p.2 (by simp), evParts_congr l (fun y hy => hx y (by simp only [List.map_cons, List.mem_cons]; exact .inr hy))]

theorem evO_congr {ε ε' : Env} (x : Option Operand) (hx : ∀ y ∈ x.toList, ε y = ε' y) : evO ε x = evO ε' x := by
  cases x with
  | none => rfl
  | some y => show ob (ε y) _ = ob (ε' y) _; rw [hx y (by simp)]

theorem exec_congr {ε ε' : Env} {o : Op} (hx : ∀ x ∈ opnds o, ε x = ε' x) : exec P X ε h o = exec P X ε' h o := by
  cases o with
  | move x =>
    have h0 := hx x (by simp [opnds])
    show e_move x P X ε h = e_move x P X ε' h
    simp only [e_move, h0]
  | assign x =>
    have h0 := hx x (by simp [opnds])
    show e_assign x P X ε h = e_assign x P X ε' h
    simp only [e_assign, h0]
  | pick c a b =>
    have h0 := hx c (by simp [opnds])
    have h1 := hx a (by simp [opnds])
    have h2 := hx b (by simp [opnds])
    show e_pick c a b P X ε h = e_pick c a b P X ε' h
    simp only [e_pick, h0, h1, h2]
  | box t x =>
    have h0 := hx x (by simp [opnds])
    show e_box t x P X ε h = e_box t x P X ε' h
    simp only [e_box, h0]
  | load t a =>
    have h0 := hx a (by simp [opnds])
    show e_load t a P X ε h = e_load t a P X ε' h
    simp only [e_load, h0]
  | store t a x =>
    have h0 := hx a (by simp [opnds])
    have h1 := hx x (by simp [opnds])
    show e_store t a x P X ε h = e_store t a x P X ε' h
    simp only [e_store, h0, h1]
  | nilCheck x =>
    have h0 := hx x (by simp [opnds])
    show e_nilCheck x P X ε h = e_nilCheck x P X ε' h
    simp only [e_nilCheck, h0]
  | binOp op t x y u =>
    have h0 := hx x (by simp [opnds])
    have h1 := hx y (by simp [opnds])
    show e_binOp op t x y u P X ε h = e_binOp op t x y u P X ε' h
    simp only [e_binOp, h0, h1]
  | unOp op t x =>
    have h0 := hx x (by simp [opnds])
    show e_unOp op t x P X ε h = e_unOp op t x P X ε' h
    simp only [e_unOp, h0]
  | convert s d x =>
    have h0 := hx x (by simp [opnds])
    show e_convert s d x P X ε h = e_convert s d x P X ε' h
    simp only [e_convert, h0]
  | makeInterface t x =>
    have h0 := hx x (by simp [opnds])
    show e_makeInterface t x P X ε h = e_makeInterface t x P X ε' h
    simp only [e_makeInterface, h0]
  | makeSlice t l c =>
    have h0 := hx l (by simp [opnds])
    have h1 := hx c (by simp [opnds])
    show e_makeSlice t l c P X ε h = e_makeSlice t l c P X ε' h
    simp only [e_makeSlice, h0, h1]
  | fieldAddr t x f =>
    have h0 := hx x (by simp [opnds])
    show e_fieldAddr t x f P X ε h = e_fieldAddr t x f P X ε' h
    simp only [e_fieldAddr, h0]
  | field t x f =>
    have h0 := hx x (by simp [opnds])
    show e_field t x f P X ε h = e_field t x f P X ε' h
    simp only [e_field, h0]
  | indexAddr t x i =>
    have h0 := hx x (by simp [opnds])
    have h1 := hx i (by simp [opnds])
    show e_indexAddr t x i P X ε h = e_indexAddr t x i P X ε' h
    simp only [e_indexAddr, h0, h1]
  | index t x i =>
    have h0 := hx x (by simp [opnds])
    have h1 := hx i (by simp [opnds])
    show e_index t x i P X ε h = e_index t x i P X ε' h
    simp only [e_index, h0, h1]
  | lookup t x k ok =>
    have h0 := hx x (by simp [opnds])
    have h1 := hx k (by simp [opnds])
    show e_lookup t x k ok P X ε h = e_lookup t x k ok P X ε' h
    simp only [e_lookup, h0, h1]
  | mapUpdate t m k v =>
    have h0 := hx m (by simp [opnds])
    have h1 := hx k (by simp [opnds])
    have h2 := hx v (by simp [opnds])
    show e_mapUpdate t m k v P X ε h = e_mapUpdate t m k v P X ε' h
    simp only [e_mapUpdate, h0, h1, h2]
  | range t x =>
    have h0 := hx x (by simp [opnds])
    show e_range t x P X ε h = e_range t x P X ε' h
    simp only [e_range, h0]
  | next it s =>
    have h0 := hx it (by simp [opnds])
    show e_next it s P X ε h = e_next it s P X ε' h
    simp only [e_next, h0]
  | typeAssert x t a ok =>
    have h0 := hx x (by simp [opnds])
    show e_typeAssert x t a ok P X ε h = e_typeAssert x t a ok P X ε' h
    simp only [e_typeAssert, h0]
  | extract t i =>
    have h0 := hx t (by simp [opnds])
    show e_extract t i P X ε h = e_extract t i P X ε' h
    simp only [e_extract, h0]
  | build t ps =>
    show e_build t ps P X ε h = e_build t ps P X ε' h
    simp only [e_build, evParts_congr ps.toList hx]
  | buildSlice t n ps =>
    show e_buildSlice t n ps P X ε h = e_buildSlice t n ps P X ε' h
    simp only [e_buildSlice, evParts_congr ps.toList hx]
  | makeFunc f a b =>
    show e_makeFunc f a b P X ε h = e_makeFunc f a b P X ε' h
    simp only [e_makeFunc, evs_congr a.toList (fun x hy => hx x (List.mem_append_left _ hy)), evs_congr b.toList (fun x hy => hx x (List.mem_append_right _ hy))]
  | slice t x lo hi mx =>
    have h0 := hx x (by simp [opnds])
    show e_slice t x lo hi mx P X ε h = e_slice t x lo hi mx P X ε' h
    simp only [e_slice, h0, evO_congr lo (fun y hy => hx y (by simp only [opnds, List.mem_cons, List.mem_append]; exact .inr (.inl hy))), evO_congr hi (fun y hy => hx y (by simp only [opnds, List.mem_cons, List.mem_append]; exact .inr (.inr (.inl hy)))), evO_congr mx (fun y hy => hx y (by simp only [opnds, List.mem_cons, List.mem_append]; exact .inr (.inr (.inr hy))))]
  | call c =>
    show e_call c P X ε h = e_call c P X ε' h
    simp only [e_call, evs_congr c.args.toList (fun y hy => hx y (List.mem_append_right _ hy))]
    obtain ⟨callee, args, ts⟩ := c
    cases callee with
    | value f =>
      have h0 := hx f (by simp [opnds])
      simp only [calleeT, k_value, h0]
    | invoke r m =>
      have h0 := hx r (by simp [opnds])
      simp only [calleeT, k_invoke, h0]
    | builtin b => rfl
  | _ => rfl

theorem retV_heap {v v' : AV} {h' : H} (he : retV v h = some (.val v' h')) : h' = h := by
  simp only [retV, Option.some.injEq, R.val.injEq] at he; exact he.2.symm


/-- what it comes to leaves the heap -/
def Stays (h : H) (x : Option R) : Prop := ∀ v h', x = some (.val v h') → h' = h

theorem Stays.none : Stays h none := fun _ _ e => by cases e
theorem Stays.ret {v : AV} : Stays h (retV v h) := fun _ _ e => retV_heap e
theorem Stays.ob {α : Type} {x : Option α} {f : α → Option R} (hf : ∀ a, Stays h (f a)) : Stays h (ob x f) := by
  cases x with
  | none => exact Stays.none
  | some a => exact hf a
theorem Stays.bc {c : Bool} {a b : Option R} (ha : Stays h a) (hb : Stays h b) : Stays h (bc c a b) := by
  cases c with
  | true => exact ha
  | false => exact hb

theorem Stays.orE {a b : Option R} (ha : Stays h a) (hb : Stays h b) : Stays h (orE a b) := by
  cases a with
  | none => exact hb
  | some x => exact ha

theorem reader_stays {ε : Env} {o : Op} (hk : kindOf P o = 0) : Stays h (exec P X ε h o) := by
  cases o with
  | move x =>
    show Stays h (e_move x P X ε h)
    unfold e_move
    repeat' first | exact Stays.ret | exact Stays.none | apply Stays.bc | (apply Stays.ob; intro _)
  | assign x =>
    show Stays h (e_assign x P X ε h)
    unfold e_assign
    repeat' first | exact Stays.ret | exact Stays.none | apply Stays.bc | (apply Stays.ob; intro _)
  | pick c a b =>
    show Stays h (e_pick c a b P X ε h)
    unfold e_pick
    repeat' first | exact Stays.ret | exact Stays.none | apply Stays.bc | (apply Stays.ob; intro _)
  | build t ps =>
    show Stays h (e_build t ps P X ε h)
    unfold e_build
    repeat' first | exact Stays.ret | exact Stays.none | apply Stays.bc | (apply Stays.ob; intro _)
  | load t a =>
    show Stays h (e_load t a P X ε h)
    unfold e_load
    repeat' first | exact Stays.ret | exact Stays.none | apply Stays.bc | (apply Stays.ob; intro _)
  | nilCheck x =>
    show Stays h (e_nilCheck x P X ε h)
    unfold e_nilCheck
    repeat' first | exact Stays.ret | exact Stays.none | apply Stays.bc | (apply Stays.ob; intro _)
  | binOp op t x y u =>
    show Stays h (e_binOp op t x y u P X ε h)
    unfold e_binOp
    repeat' first | exact Stays.ret | exact Stays.none | apply Stays.bc | (apply Stays.ob; intro _)
  | unOp op t x =>
    show Stays h (e_unOp op t x P X ε h)
    unfold e_unOp
    repeat' first | exact Stays.ret | exact Stays.none | apply Stays.bc | (apply Stays.ob; intro _)
  | makeInterface t x =>
    show Stays h (e_makeInterface t x P X ε h)
    unfold e_makeInterface
    repeat' first | exact Stays.ret | exact Stays.none | apply Stays.bc | (apply Stays.ob; intro _)
  | slice t x lo hi mx =>
    show Stays h (e_slice t x lo hi mx P X ε h)
    unfold e_slice
    repeat' first | exact Stays.ret | exact Stays.none | apply Stays.bc | (apply Stays.ob; intro _)
  | fieldAddr t x f =>
    show Stays h (e_fieldAddr t x f P X ε h)
    unfold e_fieldAddr
    repeat' first | exact Stays.ret | exact Stays.none | apply Stays.bc | (apply Stays.ob; intro _)
  | field t x f =>
    show Stays h (e_field t x f P X ε h)
    unfold e_field
    repeat' first | exact Stays.ret | exact Stays.none | apply Stays.bc | (apply Stays.ob; intro _)
  | lookup t x k ok =>
    show Stays h (e_lookup t x k ok P X ε h)
    unfold e_lookup
    repeat' first | exact Stays.ret | exact Stays.none | apply Stays.bc | (apply Stays.ob; intro _)
  | typeAssert x t a ok =>
    show Stays h (e_typeAssert x t a ok P X ε h)
    unfold e_typeAssert
    repeat' first | exact Stays.ret | exact Stays.none | apply Stays.bc | (apply Stays.ob; intro _)
  | extract t i =>
    show Stays h (e_extract t i P X ε h)
    unfold e_extract
    repeat' first | exact Stays.ret | exact Stays.none | apply Stays.bc | (apply Stays.ob; intro _)
  | indexAddr t x i =>
    show Stays h (e_indexAddr t x i P X ε h)
    refine .ob fun d => .ob fun a => .ob fun j => .ob fun u => ?_
    cases d <;> first | exact Stays.none | skip
    · refine .ob fun s => ?_
      cases u <;> first | exact Stays.none | exact .bc (.bc .ret .none) .none
    · exact .bc (.ob fun p => .ob fun s => .ret) .none
  | index t x i =>
    show Stays h (e_index t x i P X ε h)
    refine .ob fun d => .ob fun a => .ob fun j => .ob fun u => ?_
    cases d <;> first | exact Stays.none | exact .ob fun s => .ob fun b => .ret | exact .bc (.ob fun p => .ob fun s => .ob fun v => .ret) .none
  | makeFunc f a b =>
    show Stays h (e_makeFunc f a b P X ε h)
    cases f <;> first | exact Stays.none | exact .ob fun a => .ob fun b => .ret
  | convert s d x =>
    show Stays h (e_convert s d x P X ε h)
    refine .ob fun s' => ?_
    cases hd : P.underlying d with
    | none => exact Stays.none
    | some d' =>
      simp only [kindOf, hd] at hk
      refine Stays.ob (x := ε x) fun u => .orE ?_ (.ob fun _ => .ret)
      cases d' <;> first | (cases hk; done) | skip
      · exact .bc (.ob fun n => .ret) .none
      · cases s' <;> first | exact Stays.none | exact .ob fun s => .ret | exact .ob fun d => .bc (.ob fun b => .ret) .none
  | call c =>
    obtain ⟨callee, args, ts⟩ := c
    show Stays h (e_call ⟨callee, args, ts⟩ P X ε h)
    refine .ob fun as => ?_
    cases callee with
    | value f => cases hk
    | invoke r m => cases hk
    | builtin b =>
      refine .orE (a := builtinT b P h ts as) ?_ (.ob fun _ => .ret)
      cases b <;> first | (cases hk; done) | skip
      · show Stays h (x_cap P h ts as)
        refine .ob fun t => .ob fun _ => ?_
        rcases as with _ | ⟨a, _ | ⟨_, _⟩⟩ <;> first | exact Stays.none | skip
        show Stays h (capV a h)
        cases a <;> first | exact Stays.none | exact Stays.ret | exact .bc .ret .none
      · show Stays h (x_len P h ts as)
        refine .ob fun t => .ob fun d => ?_
        rcases as with _ | ⟨a, _ | ⟨_, _⟩⟩ <;> first | exact Stays.none | skip
        show Stays h (lenD P d a h)
        cases d <;> first | exact Stays.none | exact Stays.ret | exact .bc .none (.ob fun n => .ret) | exact .ob fun n => .ret | exact .ob fun n => .ob fun n => .ret | exact .ob fun n => .ob fun n => .ob fun n => .ret | (refine .ob fun d2 => ?_; cases d2 <;> first | exact Stays.none | exact Stays.ret)
      · show Stays h (x_max P h ts as)
        rcases as with _ | ⟨a, _ | ⟨b, _ | ⟨_, _⟩⟩⟩ <;> first | exact Stays.none | exact .ob fun a => .ob fun b => .bc .ret .none
      · show Stays h (x_min P h ts as)
        rcases as with _ | ⟨a, _ | ⟨b, _ | ⟨_, _⟩⟩⟩ <;> first | exact Stays.none | exact .ob fun a => .ob fun b => .bc .ret .none
  | _ => cases hk

mutual
theorem avEq_sound : ∀ (a b : AV), avEq a b = true → a = b
  | .int k a, .int k' b, h => by simp only [avEq, Bool.and_eq_true, kEq_t, beq_iff_eq] at h; rw [h.1, h.2]
  | .bool a, .bool b, h => by simp only [avEq, beq_iff_eq] at h; rw [h]
  | .str a, .str b, h => by simp only [avEq, beq_iff_eq] at h; rw [h]
  | .nilp, .nilp, _ => rfl
  | .ptr a i, .ptr b j, h => by simp only [avEq, Bool.and_eq_true, beq_t] at h; rw [h.1, h.2]
  | .nils, .nils, _ => rfl
  | .sl a b c d e f, .sl a' b' c' d' e' f', h => by simp only [avEq, Bool.and_eq_true, beq_t, beq_iff_eq] at h; obtain ⟨⟨⟨⟨⟨h1, h2⟩, h3⟩, h4⟩, h5⟩, h6⟩ := h; rw [h1, h2, h3, h4, h5, h6]
  | .sl0, .sl0, _ => rfl
  | .nilm, .nilm, _ => rfl
  | .map a, .map b, h => by simp only [avEq, beq_t] at h; rw [h]
  | .nilf, .nilf, _ => rfl
  | .fn f a b, .fn f' a' b', h => by simp only [avEq, Bool.and_eq_true, beq_t] at h; rw [h.1.1, avsEq_sound a a' h.1.2, avsEq_sound b b' h.2]
  | .nili, .nili, _ => rfl
  | .ifc t v, .ifc t' v', h => by simp only [avEq, Bool.and_eq_true, beq_t] at h; rw [h.1, avEq_sound v v' h.2]
  | .agg a, .agg b, h => by simp only [avEq] at h; rw [avsEq_sound a b h]
  | .tup a, .tup b, h => by simp only [avEq] at h; rw [avsEq_sound a b h]
  | .junk a, .junk b, h => by simp only [avEq, beq_t] at h; rw [h]
theorem avsEq_sound : ∀ (a b : List AV), avsEq a b = true → a = b
  | [], [], _ => rfl
  | a :: x, b :: y, h => by simp only [avsEq, Bool.and_eq_true] at h; rw [avEq_sound a b h.1, avsEq_sound x y h.2]
end

variable [Th]

/-- a part of a heap -/
structure Sub (A0 A : H) : Prop where
  next : A0.next = A.next
  get : ∀ b o, A0.get b = some o → A.get b = some o

theorem Sim.sub {A0 A : H} (s : Sim β A w) (u : Sub A0 A) : Sim β A0 w :=
  ⟨fun b o hb => s.obj b o (u.get b o hb), fun b b' o o' r r' h1 h2 => s.inj b b' o o' r r' (u.get _ _ h1) (u.get _ _ h2), fun b hb => s.fresh b (by rw [← u.next]; exact hb)⟩

omit [Th] in
theorem Kept.sub {A0 A : H} {β' : Bet} {w' : World} (k : Kept β h w β' A w') (u : Sub A0 A) : Kept β h w β' A0 w' :=
  ⟨k.size, k.ext, k.dom, by rw [u.next]; exact k.next, k.old, fun b o r h1 h2 => k.new b o r (u.get _ _ h1) h2, k.os, k.tape, k.output⟩

/-- what is done on a part of a heap leaves the rest -/
theorem Sim.frame {A A0 A0' A' : H} {β' : Bet} {w' : World} (s : Sim β A w) (u : Sub A0 A) (s' : Sim β' A0' w') (k : Kept β A0 w β' A0' w') (hn : A'.next = A0'.next)
    (hg : ∀ b, A'.get b = match A0.get b, A.get b with | none, some o => some o | _, _ => A0'.get b) :
    Sim β' A' w' ∧ Kept β A w β' A' w' ∧ ∀ b o, A0.get b = none → A.get b = some o → A0'.get b = none := by
  have lost : ∀ b o, A0.get b = none → A.get b = some o → A0'.get b = none := by
    intro b o h1 h2
    cases h3 : A0'.get b with
    | none => rfl
    | some o' =>
      obtain ⟨r, hr, hlt⟩ := s.bet h2
      rcases k.new b o' r h3 (k.ext _ _ hr) with ⟨b0, o0, r0, g1, g2, g3⟩ | g
      · have := s.inj b0 b o0 o r0 r (u.get _ _ g1) h2 g2 hr g3
        subst this
        rw [h1] at g1; cases g1
      · omega
  have cases' : ∀ b o, A'.get b = some o → (A0.get b = none ∧ A.get b = some o) ∨ A0'.get b = some o := by
    intro b o hb
    rw [hg] at hb
    split at hb
    · rename_i o' h1 h2; exact .inl ⟨h1, by rw [h2]; exact hb⟩
    · exact .inr hb
  have apart : ∀ b o b' o' r r', A0.get b = none → A.get b = some o → β' b = some r → A0'.get b' = some o' → β' b' = some r' → r.1 ≠ r'.1 := by
    intro b o b' o' r r' h1 h2 hr h3 hr' e
    obtain ⟨q, hq, hlt⟩ := s.bet h2
    rw [k.ext _ _ hq] at hr
    cases hr
    rcases k.new b' o' r' h3 hr' with ⟨b0, o0, r0, g1, g2, g3⟩ | g
    · have := s.inj b0 b o0 o r0 r (u.get _ _ g1) h2 g2 hq (g3.trans e.symm)
      subst this
      rw [h1] at g1; cases g1
    · omega
  refine ⟨⟨fun b o hb => ?_, fun b b' o o' r r' h1 h2 h3 h4 h5 => ?_, fun b hb => s'.fresh b (by rw [← hn]; exact hb)⟩, ⟨k.size, k.ext, fun b r hr => ?_, by rw [hn, ← u.next]; exact k.next, fun i hi hne => ?_, fun b o r hb hr => ?_, k.os, k.tape, k.output⟩, lost⟩
  · rcases cases' b o hb with ⟨h1, h2⟩ | h1
    · refine ObjR.turn k.ext (fun r hr => ?_) (s.obj b o h2)
      obtain ⟨r', hr', hlt⟩ := s.bet h2
      rw [hr] at hr'; cases hr'
      refine k.old _ hlt fun b0 o0 r0 g1 g2 e => ?_
      have := s.inj b0 b o0 o r0 r (u.get _ _ g1) h2 g2 hr e
      subst this
      rw [h1] at g1; cases g1
    · exact s'.obj b o h1
  · rcases cases' b o h1 with ⟨a1, a2⟩ | a1 <;> rcases cases' b' o' h2 with ⟨c1, c2⟩ | c1
    · obtain ⟨q, hq, _⟩ := s.bet a2
      obtain ⟨q', hq', _⟩ := s.bet c2
      rw [k.ext _ _ hq] at h3; rw [k.ext _ _ hq'] at h4
      cases h3; cases h4
      exact s.inj b b' o o' r r' a2 c2 hq hq' h5
    · exact absurd h5 (apart b o b' o' r r' a1 a2 h3 c1 h4)
    · exact absurd h5.symm (apart b' o' b o r' r c1 c2 h4 a1 h3)
    · exact s'.inj b b' o o' r r' a1 c1 h3 h4 h5
  · rcases k.dom b r hr with g | g
    · exact .inl g
    · exact .inr (by rw [← u.next]; exact g)
  · exact k.old i hi fun b o r g1 g2 => hne b o r (u.get _ _ g1) g2
  · rcases cases' b o hb with ⟨h1, h2⟩ | h1
    · obtain ⟨q, hq, _⟩ := s.bet h2
      rw [k.ext _ _ hq] at hr; cases hr
      exact .inl ⟨b, o, r, h2, hq, rfl⟩
    · rcases k.new b o r h1 hr with ⟨b0, o0, r0, g1, g2, g3⟩ | g
      · exact .inl ⟨b0, o0, r0, u.get _ _ g1, g2, g3⟩
      · exact .inr g

end Go.Ab
