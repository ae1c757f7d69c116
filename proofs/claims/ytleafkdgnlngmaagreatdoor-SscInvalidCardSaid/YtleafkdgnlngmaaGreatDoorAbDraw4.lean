/- A region that draws its order: whatever is done first, it comes to what the run in one order tells. -/
import Derived.Test.YtleafkdgnlngmaaGreatDoorAbDraw3
namespace Go.Ab
open Go
variable [Th]

omit [Th] in
theorem maker_indep {P : Program} {X : Ext} {ε : Env} {o : Op} {v : AV} {h h' h2 : H} {obj : AObj} (hk : kindOf P o = 1) (hn : h2.next = h.next) (he : exec P X ε h o = some (.val v h')) (hb : h'.get h.next = some obj) : exec P X ε h2 o = some (.val v (h2.new obj)) := by
  have fin : ∀ {obj' : AObj}, h' = h.new obj' → obj' = obj := by
    intro obj' e
    rw [e, H.get_new, if_pos rfl] at hb
    simpa using hb
  cases o <;> first
    | (exfalso; simp only [kindOf] at hk; first | (cases hk; done) | (split at hk <;> first | (cases hk; done) | (split at hk <;> cases hk; done)))
    | skip
  · rename_i e
    have he' : e_alloc e P X ε h = some (.val v h') := he
    show e_alloc e P X ε h2 = some (.val v (h2.new obj))
    simp only [e_alloc, ob_eq, Option.some.injEq, R.val.injEq] at he' ⊢
    obtain ⟨z, h1, h3, h4⟩ := he'
    exact ⟨z, h1, by rw [hn]; exact h3, by rw [fin h4.symm]⟩
  · rename_i t x
    have he' : e_box t x P X ε h = some (.val v h') := he
    show e_box t x P X ε h2 = some (.val v (h2.new obj))
    simp only [e_box, ob_eq, Option.some.injEq, R.val.injEq] at he' ⊢
    obtain ⟨z, h1, h3, h4⟩ := he'
    exact ⟨z, h1, by rw [hn]; exact h3, by rw [fin h4.symm]⟩
  · rename_i t n ps
    have he' : e_buildSlice t n ps P X ε h = some (.val v h') := he
    show e_buildSlice t n ps P X ε h2 = some (.val v (h2.new obj))
    simp only [e_buildSlice, ob_eq, bc_none, newSl, Option.some.injEq, R.val.injEq] at he' ⊢
    obtain ⟨a1, b1, a2, b2, a3, b3, b4, a4, b5, h3, h4⟩ := he'
    exact ⟨a1, b1, a2, b2, a3, b3, b4, a4, b5, by rw [hn]; exact h3, by rw [fin h4.symm]⟩
  · rename_i t q
    have he' : e_makeMap t q P X ε h = some (.val v h') := he
    show e_makeMap t q P X ε h2 = some (.val v (h2.new obj))
    simp only [e_makeMap, bc_none, Option.some.injEq, R.val.injEq] at he' ⊢
    obtain ⟨h1, h3, h4⟩ := he'
    exact ⟨h1, by rw [hn]; exact h3, by rw [fin h4.symm]⟩
  · rename_i t l c
    have he' : e_makeSlice t l c P X ε h = some (.val v h') := he
    show e_makeSlice t l c P X ε h2 = some (.val v (h2.new obj))
    simp only [e_makeSlice, ob_eq, bc_none, newSl, Option.some.injEq, R.val.injEq] at he' ⊢
    obtain ⟨a1, b1, a2, b2, a3, b3, a4, b4, a5, b5, a6, b6, b7, b8, h3, h4⟩ := he'
    exact ⟨a1, b1, a2, b2, a3, b3, a4, b4, a5, b5, a6, b6, b7, b8, by rw [hn]; exact h3, by rw [fin h4.symm]⟩

/-- the rest of a heap, laid over what became of a part of it -/
noncomputable def overG (A A0 A0' : H) (b : Nat) : Option AObj := match A0.get b, A.get b with | none, some o => some o | _, _ => A0'.get b

omit [Th] in
theorem over_part (A A0 A0' : H) (base : Nat) : ∀ n, ∃ A' : H, A'.next = A0'.next ∧ ∀ b, A'.get b = if base ≤ b ∧ b < base + n then overG A A0 A0' b else A0'.get b
  | 0 => ⟨A0', rfl, fun b => by rw [if_neg (by omega)]⟩
  | n + 1 => by
    obtain ⟨A', h1, h2⟩ := over_part A A0 A0' base n
    have hb : A'.get (base + n) = A0'.get (base + n) := by rw [h2, if_neg (by omega)]
    have other : ∀ b, b ≠ base + n → A'.get b = if base ≤ b ∧ b < base + (n + 1) then overG A A0 A0' b else A0'.get b := by
      intro b hne
      rw [h2]
      by_cases h : base ≤ b ∧ b < base + n
      · rw [if_pos h, if_pos (by omega)]
      · rw [if_neg h, if_neg (by omega)]
    by_cases hx : ∃ o, A0.get (base + n) = none ∧ A.get (base + n) = some o
    · obtain ⟨o, g1, g2⟩ := hx
      refine ⟨A'.set (base + n) o, h1, fun b => ?_⟩
      rw [H.get_set]
      by_cases e : base + n = b
      · subst e
        rw [if_pos rfl, if_pos (by omega)]
        unfold overG; rw [g1, g2]
      · rw [if_neg e]; exact other b (fun e' => e e'.symm)
    · refine ⟨A', h1, fun b => ?_⟩
      by_cases e : b = base + n
      · subst e
        rw [if_pos (by omega), hb]
        unfold overG
        split
        · rename_i o g1 g2; exact absurd ⟨o, g1, g2⟩ hx
        · rfl
      · exact other b e

omit [Th] in
theorem over_all (A A0 A0' : H) (base n : Nat) (hx : ∀ b o, A0.get b = none → A.get b = some o → base ≤ b ∧ b < base + n) : ∃ A' : H, A'.next = A0'.next ∧ ∀ b, A'.get b = overG A A0 A0' b := by
  obtain ⟨A', h1, h2⟩ := over_part A A0 A0' base n
  refine ⟨A', h1, fun b => ?_⟩
  rw [h2]
  by_cases h : base ≤ b ∧ b < base + n
  · rw [if_pos h]
  · rw [if_neg h]
    unfold overG
    split
    · rename_i o g1 g2; exact absurd (hx b o g1 g2) h
    · rfl

omit [Th] in
theorem Kept.back {β β' : Bet} {A A' : H} {w w' : World} {base : Nat} (k : Kept β A w β' A' w') (hb : base ≤ A.next) : Kept β (backNext base A) w β' A' w' :=
  ⟨k.size, k.ext, fun b r hr => (k.dom b r hr).imp id (fun h => Nat.le_trans hb h), Nat.le_trans hb k.next, k.old, k.new, k.os, k.tape, k.output⟩

omit [Th] in
theorem Kept.into {β β' : Bet} {h A' : H} {w w' : World} (k : Kept β h w β' A' w') : Kept β h w β' (backNext h.next A') w' :=
  ⟨k.size, k.ext, k.dom, Nat.le_refl _, k.old, k.new, k.os, k.tape, k.output⟩

structure Inv (P : Program) (ops : Array Oper) (base : Nat) (ord : List Nat) (st : Nat → DS) (β0 : Bet) (hI : H) (w0 : World) (l : Array Bool) (a : Act) (w : World) (c : Nat) (β : Bet) (A : H) : Prop where
  size : l.size = ops.size
  closed : ∀ (i : Nat) (o : Oper), l.getD i false = true → ops[i]? = some o → ∀ e ∈ o.after, bindsA e = true → l.getD e.on false = true
  cle : c ≤ (lst ord st).length
  effs : ∀ (b : Nat) (q : Nat × H), (lst ord st)[b]? = some q → (l.getD q.1 false = true ↔ b < c)
  fn : (st 0).ρ.n = a.tmps.size
  fd : a.defers = []
  fs1 : ∀ t i, Writes ops.toList i t → l.getD i false = true → ∀ v, tget (st ord.length).ρ t = some v → VR β v (a.tmps.getD t Go.undef)
  fs2 : ∀ t, (∀ i, Writes ops.toList i t → l.getD i false = false) → ∀ v, tget (st 0).ρ t = some v → VR β v (a.tmps.getD t Go.undef)
  a1 : ∀ q i obj, l.getD i false = true → c ≤ rk st q → MkAt P ops.toList base ord st q i obj → A.get (base + i) = some obj
  a2 : ∀ b, (∀ q i obj, l.getD i false = true → c ≤ rk st q → MkAt P ops.toList base ord st q i obj → b ≠ base + i) → A.get b = (snapC ord st c).get b
  a3 : A.next = (snapC ord st c).next
  r : ∀ (q i : Nat), ord[q]? = some i → c ≤ rk st q → (snapC ord st c).get (base + i) = none
  b : ∀ (q i : Nat) r, ord[q]? = some i → β (base + i) = some r → l.getD i false = true ∧ ∃ obj, MkAt P ops.toList base ord st q i obj
  bn : base + ops.size ≤ A.next
  g : GOk P β
  s : Sim β A w
  k : Kept β0 hI w0 β A w
  hI : hI.next = base

variable {P : Program} {X : Ext} {call : Caller} {ops : Array Oper} {base : Nat} {ord : List Nat} {st : Nat → DS} {β0 : Bet} {hI : H} {w0 : World}
  {l : Array Bool} {a : Act} {w : World} {c : Nat} {β : Bet} {A : H}

theorem Inv.pre (I : Inv P ops base ord st β0 hI w0 l a w c β A) : ∀ (n i : Nat), i < n → ∀ (o : Oper) (pi : Nat), ops[i]? = some o → (preOf ops.toList [])[i]? = some pi → (∀ e ∈ o.after, bindsA e = true → l.getD e.on false = true) →
    ∀ j, Nat.testBit pi j = true → l.getD j false = true
  | 0, i, h, _, _, _, _, _, _, _ => by omega
  | n + 1, i, h, o, pi, ho, hpi, he, j, hj => by
    obtain ⟨_, hlen, hs⟩ := preOf_spec ops.toList []
    obtain ⟨pi', g1, g2⟩ := hs i o (by rw [Array.getElem?_toList]; exact ho)
    simp only [List.length_nil, Nat.zero_add] at g1 g2 hlen
    rw [hpi] at g1
    cases g1
    obtain ⟨e, hm, hb, hj'⟩ := g2 j hj
    have hL := he e (by simpa using hm) hb
    rcases hj' with rfl | ⟨hlt, pe, hpe, hj'⟩
    · exact hL
    · have hlt' := lt_of_get hpe
      rw [hlen, Array.length_toList] at hlt'
      have hoe : ops[e.on]? = some ops[e.on] := Array.getElem?_eq_getElem hlt'
      exact I.pre n e.on (by omega) _ pe hoe hpe (fun e' he' hb' => I.closed e.on _ hL hoe e' he' hb') j hj'

omit [Th] in
theorem getD_set {l : Array Bool} {i j : Nat} (hi : i < l.size) : (l.setIfInBounds i true).getD j false = true ↔ (j = i ∨ l.getD j false = true) := by
  by_cases h : i = j
  · subst h
    rw [Array.getD_eq_getD_getElem?, Array.getElem?_setIfInBounds]
    simp [hi]
  · rw [Array.getD_eq_getD_getElem?, Array.getD_eq_getD_getElem?, Array.getElem?_setIfInBounds, if_neg h]
    constructor
    · exact .inr
    · rintro (e | e)
      · exact absurd e.symm h
      · exact e

omit [Th] in
theorem getD_set_f {l : Array Bool} {i j : Nat} (hi : i < l.size) (h : (l.setIfInBounds i true).getD j false = false) : j ≠ i ∧ l.getD j false = false := by
  constructor
  · rintro rfl
    rw [(getD_set hi).2 (.inl rfl)] at h; cases h
  · cases hl : l.getD j false with
    | false => rfl
    | true => rw [(getD_set hi).2 (.inr hl)] at h; cases h

end Go.Ab
