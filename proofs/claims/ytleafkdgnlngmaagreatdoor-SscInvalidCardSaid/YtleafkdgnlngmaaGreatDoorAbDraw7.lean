/- A region that draws its order: what the evaluator says of it holds of the model's. -/
import Derived.Test.YtleafkdgnlngmaaGreatDoorAbDraw6
namespace Go.Ab
open Go
variable [Th]
variable {P : Program} {X : Ext} {call : Caller} {ops : Array Oper} {base : Nat} {ord : List Nat} {st : Nat → DS} {β0 : Bet} {hI : H} {w0 : World}

omit [Th] in
theorem getD_tf {l : Array Bool} {i : Nat} (hi : i < l.size) : l.getD i true = l.getD i false := by
  rw [Array.getD_eq_getD_getElem?, Array.getD_eq_getD_getElem?, Array.getElem?_eq_getElem hi]; rfl

/-- whatever is done first -/
theorem any_ok (hP : POk P) (hX : XOk P X) (hc : COk P call) (T : Stat ops) (R : RunA P X call ops base ord st) {Q : Exit → Act → World → Prop}
    (hQ : ∀ l a w c β A, Inv P ops base ord st β0 hI w0 l a w c β A → (∀ i, i < ops.size → l.getD i false = true) → Q .normal a w) :
    ∀ (fuel : Nat) (l : Array Bool) (a : Act) (w : World) (c : Nat) (β : Bet) (A : H), Inv P ops base ord st β0 hI w0 l a w c β A → cnt (fun i => !l.getD i false) ops.size ≤ fuel → wpAny P .any ops Q fuel l a w := by
  have allOf : ∀ (l : Array Bool) (a : Act) (w : World) (c : Nat) (β : Bet) (A : H), Inv P ops base ord st β0 hI w0 l a w c β A → Region.ready .any ops l = [] → ∀ n i, i < n → i < ops.size → l.getD i false = true := by
    intro l a w c β A I hr n
    induction n with
    | zero => intro i hi; omega
    | succ n ih =>
      intro i hi hlt
      cases hl : l.getD i false with
      | true => rfl
      | false =>
        exfalso
        have ho : ops[i]? = some ops[i] := Array.getElem?_eq_getElem hlt
        have : i ∈ Region.ready .any ops l := mem_ready.2 ⟨by rw [getD_tf (by rw [I.size]; exact hlt)]; exact hl, _, ho, fun e he hb => by
          have hlt2 := T.edge i _ ho e he hb
          exact ih e.on (by omega) (by omega)⟩
        rw [hr] at this
        cases this
  intro fuel
  induction fuel with
  | zero =>
    intro l a w c β A I hn
    have hz := cnt_zero (f := fun i => !l.getD i false) (n := ops.size) (by omega)
    have hall : ∀ i, i < ops.size → l.getD i false = true := fun i hi => by simpa using hz i hi
    refine ⟨?_, hQ l a w c β A I hall⟩
    cases hr : Region.ready .any ops l with
    | nil => rfl
    | cons i r =>
      have hm : i ∈ Region.ready .any ops l := by rw [hr]; simp
      obtain ⟨h0, o, ho, _⟩ := mem_ready.1 hm
      have hlt : i < ops.size := by
        rcases Nat.lt_or_ge i ops.size with h | h
        · exact h
        · rw [Array.getElem?_eq_none h] at ho; cases ho
      rw [getD_tf (by rw [I.size]; exact hlt), hall i hlt] at h0
      cases h0
  | succ fuel ih =>
    intro l a w c β A I hn
    refine ⟨fun hr => hQ l a w c β A I (fun i hi => allOf l a w c β A I hr (i + 1) i (by omega) hi), fun i hi => ?_⟩
    obtain ⟨h0, o, ho, he⟩ := mem_ready.1 hi
    have hlt : i < ops.size := by
      rcases Nat.lt_or_ge i ops.size with h | h
      · exact h
      · rw [Array.getElem?_eq_none h] at ho; cases ho
    rw [getD_tf (by rw [I.size]; exact hlt)] at h0
    obtain ⟨p, hp⟩ := R.pos (i := i) (by rw [Array.length_toList]; exact hlt)
    obtain ⟨o', pi, v, wd, F⟩ := R.step p i hp
    have hoo := F.op
    rw [Array.getElem?_toList, ho] at hoo
    cases hoo
    have Y : Ready P X call ops base ord st l i p o pi v wd := ⟨ho, h0, he, hp, F, I.pre (i + 1) i (by omega) o pi ho F.pr he⟩
    refine Y.step R I hP hX hc T fun a' w' c' β' A' J => ih _ a' w' c' β' A' J ?_
    have hless := cnt_less (f := fun j => !l.getD j false) (g := fun j => !(l.setIfInBounds i true).getD j false) (i := i) (by simp only [h0]; rfl) (by
      have := (getD_set (l := l) (i := i) (j := i) (by rw [I.size]; exact hlt)).2 (.inl rfl)
      simp only [this]; rfl) (fun j hj => by
        cases hl : l.getD j false with
        | true => simp only [(getD_set (l := l) (i := i) (j := j) (by rw [I.size]; exact hlt)).2 (.inr hl)]
        | false =>
          cases hl' : (l.setIfInBounds i true).getD j false with
          | false => rfl
          | true =>
            rcases (getD_set (l := l) (i := i) (j := j) (by rw [I.size]; exact hlt)).1 hl' with h | h
            · exact absurd h hj
            · rw [hl] at h; cases h) ops.size
    rw [if_pos hlt] at hless
    omega

theorem draw_ok (hP : POk P) (hX : XOk P X) : DrawOk P X := by
  intro call hc ops ρ h ρ' h' hr β w a Q f g s hq
  simp only [runDraw, bc_none, ob_eq] at hr
  obtain ⟨hok, sN, hf, he⟩ := hr
  obtain ⟨st, hst0, hstep, hstN⟩ := foldD_st _ _ _ _ hf
  generalize hord : demand P ops.toList (preOf ops.toList []) = ord at hf hstep hstN
  have hend : sN.effs = [] ∧ sN.done = 2 ^ ops.size - 1 ∧ ρ' = sN.ρ ∧ h' = sN.h := by
    obtain ⟨ρ1, h1, c1, e1, f1, d1⟩ := sN
    have he' : bc f1.isEmpty (bc (Nat.beq d1 (Nat.sub (Nat.pow 2 ops.toList.length) 1)) (some (ρ1, h1)) none) none = some (ρ', h') := he
    rw [bc_none, bc_none, beq_t, Option.some.injEq, Prod.mk.injEq] at he'
    obtain ⟨k1, k2, rfl, rfl⟩ := he'
    refine ⟨by simpa using k1, ?_, rfl, rfl⟩
    rw [Array.length_toList] at k2
    exact k2
  obtain ⟨hE, hD, rfl, rfl⟩ := hend
  have spec := drawOk_spec hok
  have T : Stat ops := by
    refine ⟨fun j oj hj e he hb => (spec j oj (by rw [Array.getElem?_toList]; exact hj)).1 e (by simpa using he) hb, fun i j oi oj t hi hj hne ht hrd => ?_⟩
    have hi' : ops.toList[i]? = some oi := by rw [Array.getElem?_toList]; exact hi
    have hj' : ops.toList[j]? = some oj := by rw [Array.getElem?_toList]; exact hj
    have hx := ((spec j oj hj').2 i oi t hi' hne ht).2 hrd
    have get : ∀ {k m : Nat}, Nat.testBit ((nth (preOf ops.toList []) k).getD 0) m = true → ∃ pk, (preOf ops.toList [])[k]? = some pk ∧ Nat.testBit pk m = true := by
      intro k m hb
      rw [nth_eq] at hb
      cases hpk : (preOf ops.toList [])[k]? with
      | none => rw [hpk] at hb; simp at hb
      | some pk => rw [hpk] at hb; exact ⟨pk, rfl, hb⟩
    exact hx.imp get get
  have R : RunA P X call ops h.next ord st := by
    refine ⟨fun p i hp => stepD_F (hstep p i hp), by rw [hst0], by rw [hst0], by rw [hst0], by rw [hstN]; exact hE, fun i hi => ?_, fun i j oi oj t hi hj hdi hdj => ?_⟩
    · rw [hstN, hD, Nat.testBit_two_pow_sub_one]
      rw [Array.length_toList] at hi
      simpa using hi
    · by_cases e : i = j
      · exact e
      · exact absurd hdj ((spec j oj hj).2 i oi t hi e hdi).1
  have hl0 : ∀ i, (Array.replicate ops.size false).getD i false = false := by
    intro i
    rw [Array.getD_eq_getD_getElem?, Array.getElem?_replicate]
    split <;> rfl
  have hrk0 : rk st 0 = 0 := by unfold rk; rw [hst0]; rfl
  have hsn0 : snapC ord st 0 = backNext (h.next + ops.size) h := by
    have := R.snap (p := 0) (Nat.zero_le _)
    rw [hrk0] at this
    rw [← this, hst0, Array.length_toList]
    rfl
  have hsub0 : Sim β (backNext (h.next + ops.size) h) w := ⟨s.obj, s.inj, fun b hb => s.fresh b (by rw [H.next_back] at hb; omega)⟩
  have I0 : Inv P ops h.next ord st β h w (Array.replicate ops.size false) a w 0 β (backNext (h.next + ops.size) h) := by
    refine ⟨by simp, fun i o hi => ?_, Nat.zero_le _, fun b q hq => ?_, ?_, f.d, fun t i _ hi => ?_, fun t _ v hv => ?_, fun q i obj hi => ?_, fun b _ => by rw [hsn0], by rw [hsn0], fun q i hq _ => ?_, fun q i r hq hr => ?_, Nat.le_refl _, g, hsub0, ?_, rfl⟩
    · rw [hl0] at hi; cases hi
    · rw [hl0]; simp
    · rw [hst0]; exact f.n
    · rw [hl0] at hi; cases hi
    · rw [hst0] at hv; exact f.t t v hv
    · rw [hl0] at hi; cases hi
    · rw [hsn0, H.get_back]
      cases hg : h.get (h.next + i) with
      | none => rfl
      | some ob => have := s.lt hg; omega
    · rw [s.fresh _ (by omega)] at hr; cases hr
    · exact ⟨Nat.le_refl _, fun _ _ x => x, fun _ _ x => .inl x, Nat.le_add_right _ _, fun _ _ _ => rfl, fun b ob r h1 h2 => .inl ⟨b, ob, r, h1, h2, rfl⟩, rfl, rfl, rfl⟩
  refine any_ok hP hX hc T R (fun l a1 w1 c β1 A I hall => ?_) ops.size _ a w 0 β _ I0 (cnt_le _ _)
  have hcm : c = (lst ord st).length := by
    have h1 := I.cle
    rcases Nat.lt_or_ge c (lst ord st).length with hlt | hge
    · obtain ⟨q, hq⟩ : ∃ q, (lst ord st)[c]? = some q := ⟨_, List.getElem?_eq_getElem hlt⟩
      have h2 := (I.effs c q hq).1 (hall q.1 ?_)
      · omega
      · have hq' := hq
        obtain ⟨k, s1⟩ := q
        rw [R.lst_get (Nat.le_refl _) (by have := lt_of_get hq; unfold lst at this; rw [List.length_reverse] at this; exact this)] at hq'
        obtain ⟨q2, o', _, _, _, _, _, _, _, _, F'⟩ := R.lst_at ord.length (Nat.le_refl _) c k s1 hq'
        have := lt_of_get F'.op
        rw [Array.length_toList] at this; exact this
    · omega
  have hrkN : rk st ord.length = c := by
    rw [hcm]; unfold rk lst; rw [List.length_reverse]
  obtain ⟨g1, g2, g3⟩ := R.heap ord.length (Nat.le_refl _)
  rw [hrkN] at g1 g2 g3
  have hlen : ∀ q i obj, MkAt P ops.toList h.next ord st q i obj → q < ord.length := fun q i obj hm => lt_of_get hm.1
  have hil : ∀ q i obj, MkAt P ops.toList h.next ord st q i obj → l.getD i false = true := by
    rintro q i obj ⟨_, o, ho, _⟩
    have := lt_of_get ho
    rw [Array.length_toList] at this
    exact hall i this
  have hsub : Sub (st ord.length).h A := by
    refine ⟨by rw [g1]; exact I.a3.symm, fun b ob hb => ?_⟩
    by_cases hx : ∃ q i obj, rk st q = c ∧ MkAt P ops.toList h.next ord st q i obj ∧ b = h.next + i
    · obtain ⟨q, i, obj, hr, hm, rfl⟩ := hx
      have hg := g3 q i obj (hlen _ _ _ hm) hr hm
      rw [hb] at hg
      simp only [Option.some.injEq] at hg
      subst hg
      exact I.a1 q i _ (hil _ _ _ hm) (by omega) hm
    · rw [g2 b (fun q i obj _ hr hm e => hx ⟨q, i, obj, hr, hm, e⟩)] at hb
      rw [I.a2 b fun q i obj _ hcq hm e => ?_]
      · exact hb
      · have h3 := R.rk_mono (p := q) (q := ord.length) (Nat.le_of_lt (hlen _ _ _ hm)) (Nat.le_refl _)
        exact hx ⟨q, i, obj, by omega, hm, e⟩
  rw [← hstN] at hq
  refine hq β1 w1 a1 ⟨?_, fun t v hv => ?_, I.fd⟩ (I.s.sub hsub) (I.k.sub hsub)
  · rw [R.slot_n ord.length (Nat.le_refl _)]; exact I.fn
  · by_cases hw : ∃ i, Writes ops.toList i t
    · obtain ⟨i, hw⟩ := hw
      refine I.fs1 t i hw (hall i ?_) v hv
      obtain ⟨o, ho, _⟩ := hw
      have := lt_of_get ho
      rw [Array.length_toList] at this; exact this
    · rw [R.slot_no t ord.length (Nat.le_refl _) (fun q i _ _ hwi => hw ⟨i, hwi⟩)] at hv
      exact I.fs2 t (fun i hwi => absurd ⟨i, hwi⟩ hw) v hv

/-- what the evaluator says of a call holds of the model's -/
theorem call_ok {S : Specs} (hP : POk P) (hX : XOk P X) (hS : SOk P S) (n : Nat) : COk P (callFn P X S n) := callFn_ok hP hX hS (draw_ok hP hX) n

end Go.Ab
