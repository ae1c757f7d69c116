/- A region that draws its order: each step keeps what is known; the theorem. -/
import Derived.Test.YtleafkdgnlngmaaGreatDoorAbDraw4
namespace Go.Ab
open Go
variable [Th]
variable {P : Program} {X : Ext} {call : Caller} {ops : Array Oper} {base : Nat} {ord : List Nat} {st : Nat → DS} {β0 : Bet} {hI : H} {w0 : World}
  {l : Array Bool} {a : Act} {w : World} {c : Nat} {β : Bet} {A : H}

/-- what is asked of the edges and the slots -/
structure Stat (ops : Array Oper) : Prop where
  edge : ∀ (j : Nat) (oj : Oper), ops[j]? = some oj → ∀ e ∈ oj.after, bindsA e = true → e.on < j
  slots : ∀ (i j : Nat) (oi oj : Oper) (t : Nat), ops[i]? = some oi → ops[j]? = some oj → i ≠ j → oi.dst = some t → t ∈ readsOf ops.toList oj →
    (∃ pj, (preOf ops.toList [])[j]? = some pj ∧ Nat.testBit pj i = true) ∨ (∃ pi, (preOf ops.toList [])[i]? = some pi ∧ Nat.testBit pi j = true)

abbrev RunA (P : Program) (X : Ext) (call : Caller) (ops : Array Oper) (base : Nat) (ord : List Nat) (st : Nat → DS) : Prop := Run P X call ops.toList (preOf ops.toList []) base ord st

/-- an operation that is ready, and its place in the one order -/
structure Ready (P : Program) (X : Ext) (call : Caller) (ops : Array Oper) (base : Nat) (ord : List Nat) (st : Nat → DS) (l : Array Bool) (i p : Nat) (o : Oper) (pi : Nat) (v : AV) (wd : Bool) : Prop where
  op : ops[i]? = some o
  new : l.getD i false = false
  edges : ∀ e ∈ o.after, bindsA e = true → l.getD e.on false = true
  pos : ord[p]? = some i
  F : StepF P X call ops.toList (preOf ops.toList []) base i (st p) (st (p + 1)) o pi v wd
  pre : ∀ j, Nat.testBit pi j = true → l.getD j false = true

section
variable {i p : Nat} {o : Oper} {pi : Nat} {v : AV} {wd : Bool}
variable (R : RunA P X call ops base ord st) (I : Inv P ops base ord st β0 hI w0 l a w c β A) (Y : Ready P X call ops base ord st l i p o pi v wd)
include R I Y

omit R in
theorem Ready.lt : i < l.size := by
  rw [I.size]
  rcases Nat.lt_or_ge i ops.size with h | h
  · exact h
  · have := Y.op; rw [Array.getElem?_eq_none h] at this; cases this

/-- the slots that it reads hold what they held in the one order -/
theorem Ready.agree (T : Stat ops) (t : Nat) (ht : t ∈ readsOf ops.toList o) (u : AV) (hu : tget (st p).ρ t = some u) : VR β u (a.tmps.getD t Go.undef) := by
  have hp := Nat.le_of_lt (lt_of_get Y.pos)
  by_cases hw : ∃ j, Writes ops.toList j t
  · obtain ⟨j, oj, hoj, hdj⟩ := hw
    have hun : ∀ j', Writes ops.toList j' t → j' = j := fun j' ⟨o', ho', hd'⟩ => R.uniq j' j o' oj t ho' hoj hd' hdj
    have hoj' : ops[j]? = some oj := by rw [← Array.getElem?_toList]; exact hoj
    have first : (∀ q, q < p → ord[q]? = some j → False) → l.getD j false = false → VR β u (a.tmps.getD t Go.undef) := by
      intro h1 h2
      rw [R.slot_no t p hp (fun q j' hq hj' hw' => h1 q hq (by rw [← hun j' hw']; exact hj'))] at hu
      exact I.fs2 t (fun j' hw' => by rw [hun j' hw']; exact h2) u hu
    by_cases hji : j = i
    · subst hji
      refine first (fun q hq hj' => ?_) Y.new
      have := R.nodup hj' Y.pos
      omega
    · rcases T.slots j i oj o t hoj' Y.op hji hdj ht with ⟨pi', hpi', hb⟩ | ⟨pj, hpj, hb⟩
      · rw [Y.F.pr] at hpi'
        cases hpi'
        have hL := Y.pre j hb
        obtain ⟨q, hq, hj'⟩ := (R.done_iff p hp j).1 (Y.F.sub j hb)
        have hws : Writes ops.toList j t := ⟨oj, hoj, hdj⟩
        rw [R.slot_yes hj' hws p hq hp, ← R.slot_yes hj' hws ord.length (by omega) (Nat.le_refl _)] at hu
        exact I.fs1 t j hws hL u hu
      · obtain ⟨q, hq⟩ := R.pos (i := j) (lt_of_get hoj)
        obtain ⟨oj', pj', v', w', F'⟩ := R.step q j hq
        have e1 := F'.pr
        rw [hpj] at e1
        cases e1
        have := F'.sub i hb
        obtain ⟨q', hq', hi'⟩ := (R.done_iff q (Nat.le_of_lt (lt_of_get hq)) i).1 this
        have e2 := R.nodup hi' Y.pos
        subst e2
        refine first (fun q2 hq2 hj2 => ?_) ?_
        · have := R.nodup hj2 hq; omega
        · cases hl : l.getD j false with
          | false => rfl
          | true =>
            have := I.pre (j + 1) j (by omega) oj pj hoj' hpj (fun e he hb' => I.closed j oj hl hoj' e he hb') i hb
            rw [Y.new] at this; cases this
  · have hno : ∀ j, ¬ Writes ops.toList j t := fun j hj => hw ⟨j, hj⟩
    rw [R.slot_no t p hp (fun q j _ _ => hno j)] at hu
    exact I.fs2 t (fun j hj => absurd hj (hno j)) u hu

theorem Ready.frame (T : Stat ops) : FrR β (restr (st p).ρ (readsOf ops.toList o)) a := by
  refine ⟨?_, fun t u hu => ?_, I.fd⟩
  · show (st p).ρ.n = _
    rw [R.slot_n p (Nat.le_of_lt (lt_of_get Y.pos))]; exact I.fn
  · rw [restr_get] at hu
    split at hu
    · rename_i ht; exact Y.agree R I T t ht u hu
    · cases hu

theorem Ready.wanted (T : Stat ops) : Region.wanted o (yielded ops a.tmps) = wd :=
  wanted_ok (Y.frame R I T) (by rw [restr_wanted]; exact Y.F.want)

/-- one that writes comes in its turn -/
theorem Ready.turn (hk : kindOf P o.op = 2) : c = rk st p := by
  have hp := Nat.le_of_lt (lt_of_get Y.pos)
  have hl := R.lst_eff Y.pos Y.F hk
  have h1 := I.effs _ _ hl
  have h2 : c ≤ rk st p := by
    rcases Nat.lt_or_ge (rk st p) c with h | h
    · have := h1.2 h; rw [Y.new] at this; cases this
    · exact h
  rcases Nat.lt_or_ge c (rk st p) with h | h
  · have hlen := lt_of_get hl
    obtain ⟨q, hq⟩ : ∃ q, (lst ord st)[c]? = some q := ⟨_, List.getElem?_eq_getElem (by omega)⟩
    have hm := R.lst_mem hp h hq
    rcases Y.F.kind with ⟨_, _, hall, _⟩ | ⟨h', _⟩
    · have := (I.effs c q hq).1 (Y.pre _ (hall q hm))
      omega
    · exact absurd hk h'
  · omega

/-- all else comes ahead of the one that writes next behind it -/
theorem Ready.early (hk : kindOf P o.op ≠ 2) : c ≤ rk st p := by
  rcases Nat.lt_or_ge (rk st p) c with h | h
  · have hc := I.cle
    obtain ⟨q, hq⟩ : ∃ q, (lst ord st)[rk st p]? = some q := ⟨_, List.getElem?_eq_getElem (by omega)⟩
    obtain ⟨pk, hpk, hb⟩ := R.need Y.pos Y.F hk hq
    have hL := (I.effs _ q hq).2 h
    obtain ⟨hlen1, hlen2, _⟩ := preOf_spec ops.toList []
    have hlt := lt_of_get hpk
    rw [hlen2] at hlt
    simp only [List.length_nil, Nat.zero_add, Array.length_toList] at hlt
    have hok : ops[q.1]? = some ops[q.1] := Array.getElem?_eq_getElem hlt
    have := I.pre (q.1 + 1) q.1 (by omega) _ pk hok hpk (fun e he hb' => I.closed q.1 _ hL hok e he hb') i hb
    rw [Y.new] at this; cases this
  · exact h

/-- what is known behind a step, but for the heap -/
theorem Ready.slots {β' : Bet} {cv : Value} (hext : ∀ b r, β b = some r → β' b = some r) (hv : VR β' v cv) :
    (∀ t j, Writes ops.toList j t → (l.setIfInBounds i true).getD j false = true → ∀ u, tget (st ord.length).ρ t = some u → VR β' u ((a.put o.dst cv).tmps.getD t Go.undef)) ∧
    (∀ t, (∀ j, Writes ops.toList j t → (l.setIfInBounds i true).getD j false = false) → ∀ u, tget (st 0).ρ t = some u → VR β' u ((a.put o.dst cv).tmps.getD t Go.undef)) := by
  have hlt := Y.lt I
  have hoL : ops.toList[i]? = some o := by rw [Array.getElem?_toList]; exact Y.op
  refine ⟨fun t j hw hj u hu => ?_, fun t hn u hu => ?_⟩
  · by_cases hd : o.dst = some t
    · have hval := R.slot_val Y.pos Y.F hd
      rw [hval] at hu
      cases hu
      have hput := Y.F.put
      rw [hd] at hput
      have hlt' := putT_lt hput
      rw [R.slot_n p (Nat.le_of_lt (lt_of_get Y.pos)), I.fn] at hlt'
      rw [(put_getD a o.dst cv t).2 hd hlt']
      exact hv
    · rw [(put_getD a o.dst cv t).1 hd]
      rcases (getD_set hlt).1 hj with rfl | hj
      · obtain ⟨o', ho', hd'⟩ := hw
        rw [hoL] at ho'; cases ho'
        exact absurd hd' hd
      · exact VR.mono hext _ _ (I.fs1 t j hw hj u hu)
  · have hd : o.dst ≠ some t := fun e => by
      have := hn i ⟨o, hoL, e⟩
      rw [(getD_set hlt).2 (.inl rfl)] at this; cases this
    rw [(put_getD a o.dst cv t).1 hd]
    exact VR.mono hext _ _ (I.fs2 t (fun j hj => (getD_set_f hlt (hn j hj)).2) u hu)

omit R in
theorem Ready.closed : ∀ (j : Nat) (oj : Oper), (l.setIfInBounds i true).getD j false = true → ops[j]? = some oj → ∀ e ∈ oj.after, bindsA e = true → (l.setIfInBounds i true).getD e.on false = true := by
  have hlt := Y.lt I
  intro j oj hj hoj e he hb
  refine (getD_set hlt).2 (.inr ?_)
  rcases (getD_set hlt).1 hj with rfl | hj
  · rw [Y.op] at hoj; cases hoj
    exact Y.edges e he hb
  · exact I.closed j oj hj hoj e he hb

/-- behind one that does not write -/
theorem Ready.non (hk : kindOf P o.op ≠ 2) {β' : Bet} {A' : H} {w' : World} {cv : Value} (hv : VR β' v cv) (hs : Sim β' A' w') (hkp : Kept β (backNext base A) w β' A' w') (hn : A'.next = A.next)
    (hdom : ∀ b r, β' b = some r → β b = some r ∨ (b = base + i ∧ ∃ obj, MkAt P ops.toList base ord st p i obj) ∨ A.next ≤ b)
    (h1 : ∀ obj, MkAt P ops.toList base ord st p i obj → A'.get (base + i) = some obj)
    (h2 : ∀ b, (b ≠ base + i ∨ ∀ obj, ¬ MkAt P ops.toList base ord st p i obj) → A'.get b = A.get b) :
    Inv P ops base ord st β0 hI w0 (l.setIfInBounds i true) (a.put o.dst cv) w' c β' A' := by
  have hlt := Y.lt I
  obtain ⟨s1, s2⟩ := Y.slots R I hkp.ext hv
  have hearly := Y.early R I hk
  have hpu : ∀ q obj, MkAt P ops.toList base ord st q i obj → q = p := fun q obj hm => R.nodup hm.1 Y.pos
  refine ⟨by rw [Array.size_setIfInBounds]; exact I.size, Y.closed I, I.cle, fun b q hq => ?_, by rw [(put_size ..).1]; exact I.fn, by rw [(put_size ..).2]; exact I.fd, s1, s2, fun q j obj hj hc hm => ?_, fun b hb => ?_, hn.trans I.a3, I.r, fun q j r hq hr => ?_, by rw [hn]; exact I.bn, I.g.kept hkp, hs, ?_, I.hI⟩
  · rw [← I.effs b q hq, getD_set hlt]
    refine or_iff_right (fun e => ?_)
    obtain ⟨k, s⟩ := q
    simp only at e
    subst e
    rw [R.lst_get (Nat.le_refl _) (by have := lt_of_get hq; unfold lst at this; rw [List.length_reverse] at this; exact this)] at hq
    obtain ⟨q', o', pi', v', w', _, hpos, _, _, hk', F'⟩ := R.lst_at ord.length (Nat.le_refl _) b k s hq
    have hh := F'.op
    rw [Array.getElem?_toList, Y.op] at hh
    cases hh
    exact hk hk'
  · by_cases hji : j = i
    · subst hji
      have := hpu q obj hm
      subst this
      exact h1 obj hm
    · rw [h2 (base + j) (.inl (by omega))]
      exact I.a1 q j obj (((getD_set hlt).1 hj).resolve_left hji) hc hm
  · have hb' : b ≠ base + i ∨ ∀ obj, ¬ MkAt P ops.toList base ord st p i obj := by
      by_cases hm : ∃ obj, MkAt P ops.toList base ord st p i obj
      · obtain ⟨obj, hm⟩ := hm
        exact .inl (hb p i obj ((getD_set hlt).2 (.inl rfl)) hearly hm)
      · exact .inr fun obj hm' => hm ⟨obj, hm'⟩
    rw [h2 b hb']
    exact I.a2 b fun q j obj hj hc hm => hb q j obj ((getD_set hlt).2 (.inr hj)) hc hm
  · rcases hdom _ _ hr with h | ⟨h, hm⟩ | h
    · obtain ⟨g1, g2⟩ := I.b q j r hq h
      exact ⟨(getD_set hlt).2 (.inr g1), g2⟩
    · have : j = i := by omega
      subst this
      have := R.nodup hq Y.pos
      subst this
      exact ⟨(getD_set hlt).2 (.inl rfl), hm⟩
    · have hjl : j < ops.size := by
        obtain ⟨o', _, _, _, F'⟩ := R.step q j hq
        have := lt_of_get F'.op
        rw [Array.length_toList] at this; exact this
      have := I.bn
      omega
  · have hk0 : Kept β0 hI w0 β (backNext base A) w := by have := I.k.into; rw [I.hI] at this; exact this
    exact hk0.trans hkp

end

end Go.Ab
