/- A region that draws its order: the theorem. -/
import Derived.Test.YtleafkdgnlngmaaGreatDoorAbDraw5
namespace Go.Ab
open Go
variable [Th]
variable {P : Program} {X : Ext} {call : Caller} {ops : Array Oper} {base : Nat} {ord : List Nat} {st : Nat → DS} {β0 : Bet} {hI : H} {w0 : World}
  {l : Array Bool} {a : Act} {w : World} {c : Nat} {β : Bet} {A : H}

section
variable {i p : Nat} {o : Oper} {pi : Nat} {v : AV} {wd : Bool}
variable (R : RunA P X call ops base ord st) (I : Inv P ops base ord st β0 hI w0 l a w c β A) (Y : Ready P X call ops base ord st l i p o pi v wd)
include R I Y

theorem Ready.sub_eff (hk : kindOf P o.op = 2) : Sub (st p).h A := by
  have hp := Nat.le_of_lt (lt_of_get Y.pos)
  obtain ⟨g1, g2, g3⟩ := R.heap p hp
  have hc := Y.turn R I hk
  rw [← hc] at g1 g2 g3
  refine ⟨by rw [g1]; exact I.a3.symm, fun b ob hb => ?_⟩
  by_cases hm : ∃ q j obj, q < p ∧ rk st q = c ∧ MkAt P ops.toList base ord st q j obj ∧ b = base + j
  · obtain ⟨q, j, obj, hq, hr, hm, rfl⟩ := hm
    have hg := g3 q j obj hq hr hm
    rw [hb] at hg
    simp only [Option.some.injEq] at hg
    subst hg
    obtain ⟨oj, pj, vj, wj, F'⟩ := R.step q j hm.1
    have hkj : kindOf P oj.op ≠ 2 := by
      obtain ⟨_, o', ho', hk', _⟩ := hm
      rw [F'.op] at ho'; cases ho'
      omega
    have hl := R.lst_eff Y.pos Y.F hk
    obtain ⟨pk, hpk, hbk⟩ := R.need hm.1 F' hkj (q := (i, (st p).cur)) (by rw [hr, hc]; exact hl)
    have hpk' : (preOf ops.toList [])[i]? = some pk := hpk
    rw [Y.F.pr] at hpk'
    cases hpk'
    exact I.a1 q j _ (Y.pre j hbk) (by omega) hm
  · rw [g2 b (fun q j obj hq hr hmk e => hm ⟨q, j, obj, hq, hr, hmk, e⟩)] at hb
    rw [I.a2 b fun q j obj hj hcq hmk e => ?_]
    · exact hb
    · subst e
      rw [I.r q j hmk.1 hcq] at hb; cases hb

theorem Ready.none_eff (hk : kindOf P o.op = 2) {q j : Nat} (hq : ord[q]? = some j) (hr : c + 1 ≤ rk st q) : (st p).h.get (base + j) = none := by
  have hp := Nat.le_of_lt (lt_of_get Y.pos)
  obtain ⟨g1, g2, g3⟩ := R.heap p hp
  have hc := Y.turn R I hk
  rw [← hc] at g2
  rw [g2 (base + j) fun q' j' obj hq' hr' hm e => ?_]
  · exact I.r q j hq (by omega)
  · have : j = j' := by omega
    subst this
    have := R.nodup hm.1 hq
    subst this
    omega

/-- behind one that writes -/
theorem Ready.eff (hk : kindOf P o.op = 2) {β' : Bet} {w' : World} {cv : Value} (hv : VR β' v cv) (hs : Sim β' (st (p + 1)).h w') (hkp : Kept β (st p).h w β' (st (p + 1)).h w') :
    ∃ A', Inv P ops base ord st β0 hI w0 (l.setIfInBounds i true) (a.put o.dst cv) w' (c + 1) β' A' := by
  have hlt := Y.lt I
  have hp := Nat.le_of_lt (lt_of_get Y.pos)
  have hp1 : p + 1 ≤ ord.length := lt_of_get Y.pos
  have hc := Y.turn R I hk
  have hsub := Y.sub_eff R I hk
  obtain ⟨g1, g2, g3⟩ := R.heap p hp
  rw [← hc] at g1 g2 g3
  have hr1 := Run.rk_eff Y.F hk
  have hsnap : (st (p + 1)).h = snapC ord st (c + 1) := by
    rw [← Run.eff_h Y.F hk, R.snap hp1, hr1, hc]
  have extra : ∀ b ob, (st p).h.get b = none → A.get b = some ob → ∃ q j obj, l.getD j false = true ∧ c + 1 ≤ rk st q ∧ MkAt P ops.toList base ord st q j obj ∧ b = base + j := by
    intro b ob h1 h2
    by_cases hx : ∃ q j obj, l.getD j false = true ∧ c ≤ rk st q ∧ MkAt P ops.toList base ord st q j obj ∧ b = base + j
    · obtain ⟨q, j, obj, hj, hcq, hm, rfl⟩ := hx
      refine ⟨q, j, obj, hj, ?_, hm, rfl⟩
      rcases Nat.lt_or_ge c (rk st q) with h | h
      · exact h
      · exfalso
        have e : rk st q = c := by omega
        have hqp : q < p := by
          rcases Nat.lt_trichotomy q p with h' | h' | h'
          · exact h'
          · subst h'
            have := hm.1
            rw [Y.pos] at this; cases this
            obtain ⟨_, o', ho', hk', _⟩ := hm
            rw [Array.getElem?_toList, Y.op] at ho'; cases ho'
            omega
          · have := R.rk_mono (p := p + 1) (q := q) h' (Nat.le_of_lt (lt_of_get hm.1))
            omega
        rw [g3 q j obj hqp e hm] at h1; cases h1
    · exfalso
      rw [I.a2 b fun q j obj hj hcq hm e => hx ⟨q, j, obj, hj, hcq, hm, e⟩] at h2
      by_cases hm : ∃ q j obj, q < p ∧ rk st q = c ∧ MkAt P ops.toList base ord st q j obj ∧ b = base + j
      · obtain ⟨q, j, obj, hq, hr, hm, rfl⟩ := hm
        rw [g3 q j obj hq hr hm] at h1; cases h1
      · rw [g2 b (fun q j obj hq hr hmk e => hm ⟨q, j, obj, hq, hr, hmk, e⟩), h2] at h1; cases h1
  have hjlt : ∀ (q j : Nat), ord[q]? = some j → j < ops.size := by
    intro q j hq
    obtain ⟨o', _, _, _, F'⟩ := R.step q j hq
    have := lt_of_get F'.op
    rw [Array.length_toList] at this; exact this
  obtain ⟨A', hn', hg'⟩ := over_all A (st p).h (st (p + 1)).h base ops.size (fun b ob h1 h2 => by
    obtain ⟨q, j, obj, _, _, hm, rfl⟩ := extra b ob h1 h2
    have := hjlt q j hm.1
    omega)
  obtain ⟨s', k', lost⟩ := I.s.frame hsub hs hkp hn' (fun b => hg' b)
  obtain ⟨s1, s2⟩ := Y.slots R I k'.ext hv
  refine ⟨A', by rw [Array.size_setIfInBounds]; exact I.size, Y.closed I, ?_, fun b q hq => ?_, by rw [(put_size ..).1]; exact I.fn, by rw [(put_size ..).2]; exact I.fd, s1, s2, fun q j obj hj hcq hm => ?_, fun b hb => ?_, by rw [hn', hsnap], fun q j hq hcq => ?_, fun q j r hq hr => ?_, ?_, I.g.kept k', s', ?_, I.hI⟩
  · have := lt_of_get (R.lst_eff Y.pos Y.F hk); omega
  · rw [getD_set hlt, I.effs b q hq]
    have hlb : b < (st ord.length).ended.length := by have := lt_of_get hq; unfold lst at this; rw [List.length_reverse] at this; exact this
    have hq' := hq
    obtain ⟨k, s⟩ := q
    rw [R.lst_get (Nat.le_refl _) hlb] at hq'
    obtain ⟨q2, o', pi', v', w2, _, hpos, hrk, _, hk', F'⟩ := R.lst_at ord.length (Nat.le_refl _) b k s hq'
    constructor
    · rintro (e | h)
      · simp only at e
        subst e
        have := R.nodup hpos Y.pos
        subst this
        omega
      · omega
    · intro h
      rcases Nat.lt_or_ge b c with h' | h'
      · exact .inr h'
      · have e : b = c := by omega
        subst e
        have hl := R.lst_eff Y.pos Y.F hk
        rw [← hc, hq] at hl
        simp only [Option.some.injEq, Prod.mk.injEq] at hl
        exact .inl hl.1
  · have hji : j ≠ i := by
      rintro rfl
      have := R.nodup hm.1 Y.pos
      subst this
      omega
    have hA := I.a1 q j obj (((getD_set hlt).1 hj).resolve_left hji) (by omega) hm
    have h0 := Y.none_eff R I hk hm.1 hcq
    rw [hg' (base + j)]
    unfold overG
    rw [h0, hA]
  · rw [hg' b, ← hsnap]
    unfold overG
    split
    · rename_i ob h1 h2
      obtain ⟨q, j, obj, hj, hcq, hm, e⟩ := extra b ob h1 h2
      exact absurd e (hb q j obj ((getD_set hlt).2 (.inr hj)) hcq hm)
    · rfl
  · rw [← hsnap]
    have h0 := Y.none_eff R I hk hq hcq
    cases h3 : (st (p + 1)).h.get (base + j) with
    | none => rfl
    | some ob =>
      exfalso
      obtain ⟨r, hr, _⟩ := hs.bet h3
      rcases hkp.dom _ _ hr with h | h
      · obtain ⟨hL, obj, hm⟩ := I.b q j r hq h
        have hA := I.a1 q j obj hL (by omega) hm
        rw [lost (base + j) obj h0 hA] at h3; cases h3
      · have := hjlt q j hq
        have := I.bn
        have := I.a3
        omega
  · rcases hkp.dom _ _ hr with h | h
    · obtain ⟨g, hm⟩ := I.b q j r hq h
      exact ⟨(getD_set hlt).2 (.inr g), hm⟩
    · exfalso
      have := hjlt q j hq
      have := I.bn
      have := I.a3
      omega
  · have := k'.next
    have := I.bn
    omega
  · exact I.k.trans k'

omit R Y in
theorem Inv.sub_snap : Sub (snapC ord st c) A := by
  refine ⟨I.a3.symm, fun b ob hb => ?_⟩
  rw [I.a2 b fun q j obj hj hcq hm e => ?_]
  · exact hb
  · subst e
    rw [I.r q j hm.1 hcq] at hb; cases hb

/-- one step -/
theorem Ready.step (hP : POk P) (hX : XOk P X) (hc : COk P call) (T : Stat ops) {Q : Exit → Act → World → Prop} {K : Act → World → Prop}
    (hK : ∀ a' w' c' β' A', Inv P ops base ord st β0 hI w0 (l.setIfInBounds i true) a' w' c' β' A' → K a' w') : wpOp P ops Q i K a w := by
  have hp := Nat.le_of_lt (lt_of_get Y.pos)
  unfold wpOp
  simp only [Y.op]
  rw [Y.wanted R I T]
  have fr := Y.frame R I T
  rcases Y.F.kind with ⟨hk, _, _, _, _, hh⟩ | ⟨hk, _, _, _, _, hh⟩
  · rcases hh with ⟨rfl, r, he, ha⟩ | ⟨rfl, hv, hh⟩
    · simp only [if_true]
      refine .inl (wp_exec hP hX hc fr I.g (I.s.sub (Y.sub_eff R I hk)) (by rw [restr_exec]; exact he) ha ?_)
      intro v1 h1 β' w' cv hkk hv hs hkp
      simp only [Option.some.injEq, Prod.mk.injEq] at hkk
      obtain ⟨rfl, rfl⟩ := hkk
      obtain ⟨A', J⟩ := Y.eff R I hk hv hs hkp
      exact hK _ _ _ _ _ J
    · simp only [Bool.false_eq_true, if_false]
      have hs0 := I.s.sub (Y.sub_eff R I hk)
      obtain ⟨A', J⟩ := Y.eff R I hk (β' := β) (w' := w) (cv := Go.undef) (by rw [hv]; exact VR_undef β) (by rw [hh]; exact hs0) (by rw [hh]; exact Kept.refl ..)
      exact hK _ _ _ _ _ J
  · rcases hh with ⟨rfl, hv, hh⟩ | ⟨rfl, hk1, h', he, hh⟩ | ⟨rfl, hk0, hh, ⟨h', he⟩, hst⟩
    · simp only [Bool.false_eq_true, if_false]
      have nomk : ∀ obj, ¬ MkAt P ops.toList base ord st p i obj := by
        rintro obj ⟨_, o', ho', _, hw', _⟩
        rw [Array.getElem?_toList, Y.op] at ho'; cases ho'
        rw [Y.F.want] at hw'; cases hw'
      refine hK _ _ _ _ _ (Y.non R I hk (β' := β) (A' := A) (w' := w) (cv := Go.undef) (by rw [hv]; exact VR_undef β) I.s ((Kept.refl β A w).back (by have := I.bn; omega)) rfl (fun b r hr => .inl hr) (fun obj hm => absurd hm (nomk obj)) (fun _ _ => rfl))
    · simp only [if_true]
      refine .inl ?_
      obtain ⟨obj, hsh⟩ := maker_shape hk1 he
      have hid : i < ops.size := by have := Y.lt I; rw [I.size] at this; exact this
      have hget : (st (p + 1)).h.get (base + i) = some obj := by
        rw [hh, H.get_back, hsh, H.get_new, H.next_back, if_pos rfl]
      have hmk : MkAt P ops.toList base ord st p i obj := ⟨Y.pos, o, Y.F.op, hk1, Y.F.want, hget⟩
      have huniq : ∀ obj', MkAt P ops.toList base ord st p i obj' → obj' = obj := by
        rintro obj' ⟨_, _, _, _, _, hg⟩
        rw [hget] at hg; cases hg; rfl
      have he2 : exec P X (ev P (restr (st p).ρ (readsOf ops.toList o))) (backNext (base + i) A) o.op = some (.val v ((backNext (base + i) A).new obj)) := by
        rw [restr_exec]
        exact maker_indep (h := backNext (base + i) (st p).h) hk1 rfl he (by rw [hsh, H.get_new, if_pos rfl])
      have hβ : β (base + i) = none := by
        cases hb : β (base + i) with
        | none => rfl
        | some r => have := (I.b p i r Y.pos hb).1; rw [Y.new] at this; cases this
      have hAg : A.get (base + i) = none := by
        rw [I.a2 (base + i) fun q j obj' hj _ _ e => ?_]
        · exact I.r p i Y.pos (Y.early R I hk)
        · have : i = j := by omega
          subst this
          rw [Y.new] at hj; cases hj
      have hlt : base + i < A.next := by have := I.bn; omega
      obtain ⟨obj', β', w', e1, hs, hkI, cv, hrun, hv⟩ := mk_ok (η := a.eval) hk1 I.s hβ hAg hlt (fr.ev I.g) he2
      have : obj' = obj := by
        have e2 : ((backNext (base + i) A).new obj).get (base + i) = ((backNext (base + i) A).new obj').get (base + i) := by rw [e1]
        rw [H.get_new, H.get_new, H.next_back, if_pos rfl, if_pos rfl] at e2
        simpa using e2.symm
      subst this
      unfold Oper.wp
      rw [hrun, Oper.upon_value]
      refine hK _ _ _ _ _ (Y.non R I hk hv hs ?_ rfl (fun b r hr => ?_) (fun obj2 hm => ?_) (fun b hb => ?_))
      · have k := hkI.kept
        exact ⟨k.size, k.ext, fun b r hr => (k.dom b r hr).imp id (fun h => Nat.le_trans (Nat.le_add_right base i) h), Nat.le_trans (Nat.le_add_right base i) k.next, k.old, k.new, k.os, k.tape, k.output⟩
      · rcases hkI.dom b r hr with h | h
        · exact .inl h
        · exact .inr (.inl ⟨h, obj', hmk⟩)
      · rw [H.get_set, if_pos rfl, huniq obj2 hm]
      · rw [H.get_set]
        rcases hb with hb | hb
        · rw [if_neg (fun e => hb e.symm)]
        · exact absurd hmk (hb obj')
    · simp only [if_true]
      have hearly := Y.early R I hk
      have hsnap : ∃ h', exec P X (ev P (st p).ρ) (snapC ord st c) o.op = some (.val v h') := by
        rcases Nat.lt_or_ge c (rk st p) with hlt | hge
        · have hrl : rk st p ≤ (lst ord st).length := by
            obtain ⟨l', hl'⟩ := R.lst_eq hp
            rw [hl', List.length_append, List.length_reverse]; unfold rk; omega
          obtain ⟨q, hq⟩ : ∃ q, (lst ord st)[c]? = some q := ⟨_, List.getElem?_eq_getElem (by omega)⟩
          have hm := R.lst_mem hp hlt hq
          have hnb : Nat.testBit pi q.1 = false := by
            cases hb : Nat.testBit pi q.1 with
            | false => rfl
            | true =>
              have := (I.effs c q hq).1 (Y.pre _ hb)
              omega
          have : snapC ord st c = q.2 := by unfold snapC; rw [hq]
          rw [this]
          exact hst q hm hnb
        · have e : c = rk st p := by omega
          rw [e, ← R.snap hp]
          exact ⟨h', he⟩
      obtain ⟨h2, he2⟩ := hsnap
      have hst2 : h2 = snapC ord st c := reader_stays hk0 v h2 he2
      subst hst2
      refine .inl (wp_exec (r := .val v (snapC ord st c)) (k := fun v h => some (v, h)) hP hX hc fr I.g (I.s.sub (I.sub_snap)) (by rw [restr_exec]; exact he2) rfl ?_)
      intro v1 h1 β' w' cv hkk hv hs hkp
      simp only [Option.some.injEq, Prod.mk.injEq] at hkk
      obtain ⟨rfl, rfl⟩ := hkk
      obtain ⟨s', k', _⟩ := I.s.frame (A' := A) (I.sub_snap) hs hkp I.a3 (fun b => by
        cases h1 : (snapC ord st c).get b with
        | some ob => exact (I.sub_snap).get b ob h1
        | none => cases h2 : A.get b <;> rfl)
      have nomk : ∀ obj, ¬ MkAt P ops.toList base ord st p i obj := by
        rintro obj ⟨_, o', ho', hk', _⟩
        rw [Array.getElem?_toList, Y.op] at ho'; cases ho'
        omega
      exact hK _ _ _ _ _ (Y.non R I hk hv s' (k'.back (by have := I.bn; omega)) rfl (fun b r hr => (k'.dom b r hr).imp id .inr) (fun obj hm => absurd hm (nomk obj)) (fun _ _ => rfl))

end

end Go.Ab
