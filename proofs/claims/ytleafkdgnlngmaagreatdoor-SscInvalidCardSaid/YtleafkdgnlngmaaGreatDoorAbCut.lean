/- A body is followed statement by statement; a run may be cut where the state is written out. -/
import Derived.Test.YtleafkdgnlngmaaGreatDoorAbBy
namespace Go.Ab
open Go
def stms : Code → List Code
  | .seq a b => a :: stms b
  | c => [c]

noncomputable def runL (P : Program) (X : Ext) (S : Specs) (n : Nat) (l : List Code) : Fm → H → CR :=
  List.rec (fun ρ h => some (.normal, ρ, h)) (fun c _ ih ρ h => ifNormal (runCode P X S n c ρ h) ih) l

/-! words in which a state is written out -/
def zE : Tr AObj := .e
def zN (l r : Tr AObj) : Tr AObj := .n none l r
def zS (o : AObj) (l r : Tr AObj) : Tr AObj := .n (some o) l r
def vE : Tr AV := .e
def vN (l r : Tr AV) : Tr AV := .n none l r
def vS (o : AV) (l r : Tr AV) : Tr AV := .n (some o) l r
def zC (l : List AV) (p : Bool) : AObj := .cells l p
def zM (l : List (AV × AV)) : AObj := .map l
def zI (l : List UInt8) (p : Nat) : AObj := .iter l p
def i_i64 (n : Nat) : AV := .int .i64 (.ofNat n)
def n_i64 (n : Nat) : AV := .int .i64 (.negSucc n)
def i_u8 (n : Nat) : AV := .int .u8 (.ofNat n)
def i_u64 (n : Nat) : AV := .int .u64 (.ofNat n)
def i_u32 (n : Nat) : AV := .int .u32 (.ofNat n)
def i_i32 (n : Nat) : AV := .int .i32 (.ofNat n)
def aB (b : Bool) : AV := .bool b
def aStr (l : List UInt8) : AV := .str l
def aPtr (b o : Nat) : AV := .ptr b o
def aSl (b o n c e : Nat) (x : Bool) : AV := .sl b o n c e x
def aMap (b : Nat) : AV := .map b
def aFn (f : Nat) (a b : List AV) : AV := .fn f a b
def aIfc (t : Nat) (v : AV) : AV := .ifc t v
def aAgg (l : List AV) : AV := .agg l
def aTup (l : List AV) : AV := .tup l
def aJunk (i : Nat) : AV := .junk i
def aNilp : AV := .nilp
def aNils : AV := .nils
def aSl0 : AV := .sl0
def aNilm : AV := .nilm
def aNilf : AV := .nilf
def aNili : AV := .nili

variable [Th]
variable {P : Program} {X : Ext} {S : Specs} {h : H}

def AL (P : Program) : List Code → Fm → H → (AX → Fm → H → Prop) → Prop
  | [], ρ, h, Q => Q .normal ρ h
  | c :: l, ρ, h, Q => AC P c ρ h (AX.andThen (fun ρ h => AL P l ρ h Q) Q)

theorem AL.ac {Q : AX → Fm → H → Prop} : ∀ (c : Code) (ρ : Fm) (h : H), AL P (stms c) ρ h Q → AC P c ρ h Q := by
  have one : ∀ (c : Code) (ρ : Fm) (h : H), AL P [c] ρ h Q → AC P c ρ h Q := fun c ρ h a => AC.mono (Q := AX.andThen (fun ρ h => Q .normal ρ h) Q) a fun e ρ' h' q => match e, q with
    | .normal, q => q
    | .exit _, q => q
    | .goto _, q => q
    | .ret, q => q
  intro c
  induction c with
  | seq a b _ ihb =>
    intro ρ h q
    refine AC.seqM (fun ρ h => AL P (stms b) ρ h Q) q ihb
  | _ => exact one _

theorem AL.run (hP : POk P) (hX : XOk P X) (hS : SOk P S) {n : Nat} {Q : AX → Fm → H → Prop} : ∀ (l : List Code) (ρ : Fm) (h : H) (e : AX) (ρ' : Fm) (h' : H), runL P X S n l ρ h = some (e, ρ', h') → Q e ρ' h' → AL P l ρ h Q
  | [], ρ, h, e, ρ', h', hr, hq => by
    have hr' : some (AX.normal, ρ, h) = some (e, ρ', h') := hr
    cases hr'
    exact hq
  | c :: l, ρ, h, e, ρ', h', hr, hq => by
    have hr' : ifNormal (runCode P X S n c ρ h) (fun ρ h => runL P X S n l ρ h) = some (e, ρ', h') := hr
    simp only [ifNormal, ob_eq] at hr'
    obtain ⟨⟨e1, ρ1, h1⟩, hx, hr'⟩ := hr'
    refine AC.run hP hX hS hx ?_
    cases e1 with
    | normal => exact AL.run hP hX hS l ρ1 h1 e ρ' h' hr' hq
    | exit i => rw [hx] at hr'; cases hr'; exact hq
    | goto i => rw [hx] at hr'; cases hr'; exact hq
    | ret => rw [hx] at hr'; cases hr'; exact hq

theorem AL.append {Q : AX → Fm → H → Prop} : ∀ (l1 l2 : List Code) (ρ : Fm) (h : H), AL P l1 ρ h (AX.andThen (fun ρ h => AL P l2 ρ h Q) Q) → AL P (l1 ++ l2) ρ h Q
  | [], l2, ρ, h, q => q
  | c :: l1, l2, ρ, h, q => by
    refine AC.mono (Q := AX.andThen (fun ρ h => AL P l1 ρ h (AX.andThen (fun ρ h => AL P l2 ρ h Q) Q)) (AX.andThen (fun ρ h => AL P l2 ρ h Q) Q)) q fun e ρ' h' q' => ?_
    cases e with
    | normal => exact AL.append l1 l2 ρ' h' q'
    | exit i => exact q'
    | goto i => exact q'
    | ret => exact q'

/-- the first k statements come to such a state; from there on -/
theorem AL.cut (hP : POk P) (hX : XOk P X) (hS : SOk P S) {n : Nat} {Q : AX → Fm → H → Prop} {l : List Code} (k : Nat) {ρ ρ' : Fm} {h' : H} (hr : runL P X S n (l.take k) ρ h = some (.normal, ρ', h')) (hl : AL P (l.drop k) ρ' h' Q) : AL P l ρ h Q := by
  rw [← List.take_append_drop k l]
  exact AL.append _ _ ρ h (AL.run hP hX hS _ ρ h .normal ρ' h' hr hl)

omit [Th] in
theorem bc_and {c a : Bool} : bc c a false = true ↔ c = true ∧ a = true := by cases c <;> simp [bc]

noncomputable def avLe : List AV → List AV → Bool
  | [], [] => true
  | a :: x, b :: y => bc (avEq a b) (avLe x y) false
  | _, _ => false
omit [Th] in
theorem avLe_eq : ∀ (x y : List AV), avLe x y = true → x = y
  | [], [], _ => rfl
  | a :: x, b :: y, h => by
    have h' : bc (avEq a b) (avLe x y) false = true := h
    rw [bc_and] at h'
    rw [avEq_sound a b h'.1, avLe_eq x y h'.2]
  | [], _ :: _, h => by cases h
  | _ :: _, [], h => by cases h
noncomputable def prLe : List (AV × AV) → List (AV × AV) → Bool
  | [], [] => true
  | a :: x, b :: y => bc (avEq a.1 b.1) (bc (avEq a.2 b.2) (prLe x y) false) false
  | _, _ => false
omit [Th] in
theorem prLe_eq : ∀ (x y : List (AV × AV)), prLe x y = true → x = y
  | [], [], _ => rfl
  | (a1, a2) :: x, (b1, b2) :: y, h => by
    have h' : bc (avEq a1 b1) (bc (avEq a2 b2) (prLe x y) false) false = true := h
    rw [bc_and, bc_and] at h'
    rw [avEq_sound a1 b1 h'.1, avEq_sound a2 b2 h'.2.1, prLe_eq x y h'.2.2]
  | [], _ :: _, h => by cases h
  | _ :: _, [], h => by cases h
noncomputable def obLe : AObj → AObj → Bool
  | .cells c p, .cells c' p' => bc (p == p') (avLe c c') false
  | .map e, .map e' => prLe e e'
  | .iter s p, .iter s' p' => bc (Nat.beq p p') (s == s') false
  | _, _ => false
omit [Th] in
theorem obLe_eq : ∀ (x y : AObj), obLe x y = true → x = y
  | .cells c p, .cells c' p', h => by
    have h' : bc (p == p') (avLe c c') false = true := h
    rw [bc_and] at h'
    rw [avLe_eq c c' h'.2, beq_iff_eq.1 h'.1]
  | .map e, .map e', h => by rw [prLe_eq e e' h]
  | .iter s p, .iter s' p', h => by
    have h' : bc (Nat.beq p p') (s == s') false = true := h
    rw [bc_and, beq_t] at h'
    rw [h'.1, beq_iff_eq.1 h'.2]
  | .cells .., .map _, h => by cases h
  | .cells .., .iter .., h => by cases h
  | .map _, .cells .., h => by cases h
  | .map _, .iter .., h => by cases h
  | .iter .., .cells .., h => by cases h
  | .iter .., .map _, h => by cases h

/-- what a small trie holds, a great one holds at the same places -/
noncomputable def trLe {α : Type} (eq : α → α → Bool) (s : Tr α) : Tr α → Bool :=
  Tr.rec (fun _ => true) (fun v _ _ ihl ihr t => bc (Option.casesOn v true fun o => Option.casesOn t.val false fun o' => eq o o') (bc (ihl t.lft) (ihr t.rgt) false) false) s
omit [Th] in
theorem trLe_get {α : Type} {eq : α → α → Bool} (he : ∀ a b, eq a b = true → a = b) (i : Ix) : ∀ (s t : Tr α) (o : α), trLe eq s t = true → Tr.getI i s = some o → Tr.getI i t = some o := by
  induction i with
  | z =>
    intro s t o h hs
    cases s with
    | e => cases hs
    | n v l r =>
      have h' : bc (Option.casesOn v true fun o => Option.casesOn t.val false fun o' => eq o o') (bc (trLe eq l t.lft) (trLe eq r t.rgt) false) false = true := h
      rw [bc_and] at h'
      have hv : v = some o := hs
      subst hv
      have h1 := h'.1
      show t.val = some o
      cases ht : t.val with
      | none => rw [ht] at h1; cases h1
      | some o' => rw [ht] at h1; rw [he o o' h1]
  | o i ih =>
    intro s t o h hs
    cases s with
    | e => rw [getI_e] at hs; cases hs
    | n v l r =>
      have h' : bc (Option.casesOn v true fun o => Option.casesOn t.val false fun o' => eq o o') (bc (trLe eq l t.lft) (trLe eq r t.rgt) false) false = true := h
      rw [bc_and, bc_and] at h'
      exact ih l t.lft o h'.2.1 hs
  | i i ih =>
    intro s t o h hs
    cases s with
    | e => rw [getI_e] at hs; cases hs
    | n v l r =>
      have h' : bc (Option.casesOn v true fun o => Option.casesOn t.val false fun o' => eq o o') (bc (trLe eq l t.lft) (trLe eq r t.rgt) false) false = true := h
      rw [bc_and, bc_and] at h'
      exact ih r t.rgt o h'.2.2 hs

/-- a run ends normally, in a state of which this much is so -/
noncomputable def covers (x : CR) (R : Fm) (H0 : H) : Bool := match x with
  | some (.normal, ρ, h) => bc (Nat.beq R.n ρ.n) (bc (Nat.beq H0.next h.next) (bc (trLe avEq R.t ρ.t) (trLe obLe H0.tr h.tr) false) false) false
  | _ => false

/-- the first k statements come to a state of which this much is so; from there on -/
theorem AL.cutW (hP : POk P) (hX : XOk P X) (hS : SOk P S) {n : Nat} {Q : AX → Fm → H → Prop} {l : List Code} (k : Nat) {ρ R : Fm} {H0 : H} (hk : (l.drop k).isEmpty = false) (hr : covers (runL P X S n (l.take k) ρ h) R H0 = true) (hl : AL P (l.drop k) R H0 Q) : AL P l ρ h Q := by
  unfold covers at hr
  split at hr
  · rename_i ρ' h' hx
    rw [bc_and, bc_and, bc_and, beq_t, beq_t] at hr
    obtain ⟨h1, h2, h3, h4⟩ := hr
    refine AL.cut hP hX hS k hx ?_
    cases hd : l.drop k with
    | nil => rw [hd] at hk; cases hk
    | cons c l' =>
      rw [hd] at hl
      exact AC.weak hl ⟨h1, fun t v ht => trLe_get avEq_sound (ixOf t) _ _ v h3 ht⟩ ⟨h2, fun b o hb => trLe_get obLe_eq (ixOf b) _ _ o h4 hb⟩
  · cases hr

/-- of a heap less is known, and its blocks are counted from further on -/
structure SubN (A0 A : H) : Prop where
  next : A.next ≤ A0.next
  get : ∀ b o, A0.get b = some o → A.get b = some o
theorem Sim.subN {β : Bet} {w : World} {A0 A : H} (s : Sim β A w) (u : SubN A0 A) : Sim β A0 w :=
  ⟨fun b o hb => s.obj b o (u.get b o hb), fun b b' o o' r r' h1 h2 => s.inj b b' o o' r r' (u.get _ _ h1) (u.get _ _ h2), fun b hb => s.fresh b (Nat.le_trans u.next hb)⟩
omit [Th] in
theorem Kept.supN {β β' : Bet} {w w' : World} {A0 A h' : H} (k : Kept β A0 w β' h' w') (u : SubN A0 A) : Kept β A w β' h' w' :=
  ⟨k.size, k.ext, fun b r hr => (k.dom b r hr).imp id fun g => Nat.le_trans u.next g, Nat.le_trans u.next k.next, fun i hi hne => k.old i hi fun b o r g1 g2 => hne b o r (u.get _ _ g1) g2,
   fun b o r h1 h2 => (k.new b o r h1 h2).imp (fun ⟨b0, o0, r0, g1, g2, g3⟩ => ⟨b0, o0, r0, u.get _ _ g1, g2, g3⟩) id, k.os, k.tape, k.output⟩
theorem AC.weakN {c : Code} {ρ0 ρ : Fm} {h0 : H} {Q : AX → Fm → H → Prop} (hc : AC P c ρ0 h0 Q) (u : FSub ρ0 ρ) (v : SubN h0 h) : AC P c ρ h Q :=
  fun β w a f g s K hK => hc β w a (f.fsub u) g (s.subN v) K fun e ρ' h' β' w' a' q f' s' k => hK e ρ' h' β' w' a' q f' s' (k.supN v)

noncomputable def coversN (x : CR) (R : Fm) (H0 : H) : Bool := match x with
  | some (.normal, ρ, h) => bc (Nat.beq R.n ρ.n) (bc (Nat.ble h.next H0.next) (bc (trLe avEq R.t ρ.t) (trLe obLe H0.tr h.tr) false) false) false
  | _ => false
theorem AL.cutN (hP : POk P) (hX : XOk P X) (hS : SOk P S) {n : Nat} {Q : AX → Fm → H → Prop} {l : List Code} (k : Nat) {ρ R : Fm} {H0 : H} (hk : (l.drop k).isEmpty = false) (hr : coversN (runL P X S n (l.take k) ρ h) R H0 = true) (hl : AL P (l.drop k) R H0 Q) : AL P l ρ h Q := by
  unfold coversN at hr
  split at hr
  · rename_i ρ' h' hx
    rw [bc_and, bc_and, bc_and, beq_t, ble_t] at hr
    obtain ⟨h1, h2, h3, h4⟩ := hr
    refine AL.cut hP hX hS k hx ?_
    cases hd : l.drop k with
    | nil => rw [hd] at hk; cases hk
    | cons c l' =>
      rw [hd] at hl
      exact AC.weakN hl ⟨h1, fun t v ht => trLe_get avEq_sound (ixOf t) _ _ v h3 ht⟩ ⟨h2, fun b o hb => trLe_get obLe_eq (ixOf b) _ _ o h4 hb⟩
  · cases hr

/-- the end of a body: it returns true -/
noncomputable def endOk (fn : Func) (P : Program) (x : CR) : Bool := match x with
  | some (e, ρ, h) => bc (isEnd e) (match resultsA P fn ρ h with | some (.bool b) => b | _ => false) false
  | none => false
theorem AL.last (hP : POk P) (hX : XOk P X) (hS : SOk P S) {n : Nat} {fn : Func} {l : List Code} {ρ : Fm} (hr : endOk fn P (runL P X S n l ρ h) = true) :
    AL P l ρ h fun e ρ' h' => isEnd e = true ∧ ∃ v, resultsA P fn ρ' h' = some v ∧ v = .bool true := by
  unfold endOk at hr
  split at hr
  · rename_i e ρ' h' hx
    refine AL.run hP hX hS l ρ h e ρ' h' hx ?_
    cases he : isEnd e with
    | false => rw [he] at hr; cases hr
    | true =>
      rw [he, bc_true] at hr
      split at hr
      · rename_i b hv
        exact ⟨rfl, _, hv, by rw [hr]⟩
      · cases hr
  · cases hr
end Go.Ab
