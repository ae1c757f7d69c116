/- What a call has made and nobody keeps is let go of: the heap behind it may be taken as it was before it. -/
import Derived.Test.YtleafkdgnlngmaaGreatDoorAbCl
namespace Go.Ab
open Go
variable [Th]
variable {P : Program} {β β' β'' : Bet} {h h' : H} {w w' : World}

mutual
theorem VR.cut (hb : ∀ b, β b ≠ none → β'' b = β' b) : ∀ (a : AV) (u v : Value), VR β a u → VR β' a v → VR β'' a v
  | .int _ _, _, _, _, hv => hv
  | .bool _, _, _, _, hv => hv
  | .str _, _, _, _, hv => hv
  | .nilp, _, _, _, hv => hv
  | .ptr _ _, _, _, hu, hv => by
    simp only [VR] at hu hv ⊢
    obtain ⟨cb, base, sz, e, _⟩ := hu
    obtain ⟨cb', base', sz', e', r⟩ := hv
    exact ⟨cb', base', sz', by rw [hb _ (by rw [e]; simp)]; exact e', r⟩
  | .nils, _, _, _, hv => hv
  | .sl .., _, _, hu, hv => by
    simp only [VR] at hu hv ⊢
    obtain ⟨cb, base, sz, cc, e, _⟩ := hu
    obtain ⟨cb', base', sz', cc', e', r⟩ := hv
    exact ⟨cb', base', sz', cc', by rw [hb _ (by rw [e]; simp)]; exact e', r⟩
  | .sl0, _, _, _, hv => hv
  | .nilm, _, _, _, hv => hv
  | .map _, _, _, hu, hv => by
    simp only [VR] at hu hv ⊢
    obtain ⟨cb, base, sz, e, _⟩ := hu
    obtain ⟨cb', base', sz', e', r⟩ := hv
    exact ⟨cb', base', sz', by rw [hb _ (by rw [e]; simp)]; exact e', r⟩
  | .nilf, _, _, _, hv => hv
  | .fn _ a b, _, _, hu, hv => by
    simp only [VR] at hu hv ⊢
    obtain ⟨a1, b1, _, ha1, hb1⟩ := hu
    obtain ⟨a2, b2, e, ha2, hb2⟩ := hv
    exact ⟨a2, b2, e, VRs.cut hb a _ _ ha1 ha2, VRs.cut hb b _ _ hb1 hb2⟩
  | .nili, _, _, _, hv => hv
  | .ifc _ a, _, _, hu, hv => by
    simp only [VR] at hu hv ⊢
    obtain ⟨a1, _, ha1⟩ := hu
    obtain ⟨a2, e, ha2⟩ := hv
    exact ⟨a2, e, VR.cut hb a _ _ ha1 ha2⟩
  | .agg l, _, _, hu, hv => by
    simp only [VR] at hu hv ⊢
    obtain ⟨a1, _, ha1⟩ := hu
    obtain ⟨a2, e, ha2⟩ := hv
    exact ⟨a2, e, VRs.cut hb l _ _ ha1 ha2⟩
  | .tup l, _, _, hu, hv => by
    simp only [VR] at hu hv ⊢
    obtain ⟨a1, _, ha1⟩ := hu
    obtain ⟨a2, e, ha2⟩ := hv
    exact ⟨a2, e, VRs.cut hb l _ _ ha1 ha2⟩
  | .junk _, _, _, _, hv => hv
theorem VRs.cut (hb : ∀ b, β b ≠ none → β'' b = β' b) : ∀ (a : List AV) (u v : List Value), VRs β a u → VRs β' a v → VRs β'' a v
  | [], _, _, _, hv => hv
  | a :: l, _, _, hu, hv => by
    simp only [VRs] at hu hv ⊢
    obtain ⟨u, us, _, ha1, hl1⟩ := hu
    obtain ⟨v, vs, e, ha2, hl2⟩ := hv
    exact ⟨v, vs, e, VR.cut hb a _ _ ha1 ha2, VRs.cut hb l _ _ hl1 hl2⟩
end

theorem EntR.cut (hb : ∀ b, β b ≠ none → β'' b = β' b) : ∀ {l : List (AV × AV)} {es es' : List MapEntry}, EntR β l es → EntR β' l es' → EntR β'' l es'
  | [], _, _, _, hv => hv
  | _ :: _, _, _, ⟨_, _, _, h1, h2, h3⟩, ⟨e', es', e1, g1, g2, g3⟩ => ⟨e', es', e1, VR.cut hb _ _ _ h1 g1, VR.cut hb _ _ _ h2 g2, EntR.cut hb h3 g3⟩

theorem ObjR.cut {b : Nat} {o : AObj} (hb : ∀ b, β b ≠ none → β'' b = β' b) (hu : ObjR β w b o) (hv : ObjR β' w' b o) : ObjR β'' w' b o := by
  cases o with
  | cells c p =>
    obtain ⟨cb, base, sz, cc, e, fr, h1, _, _, _, _, _, h7⟩ := hu
    obtain ⟨cb', base', sz', cc', e', fr', g1, g2, g3, g4, g5, g6, g7⟩ := hv
    refine ⟨cb', base', sz', cc', e', fr', by rw [hb _ (by rw [h1]; simp)]; exact g1, g2, g3, g4, g5, g6, fun i v hi => ?_⟩
    obtain ⟨u, _, r⟩ := h7 i v hi
    obtain ⟨u', hu', r'⟩ := g7 i v hi
    exact ⟨u', hu', VR.cut hb _ _ _ r r'⟩
  | map es =>
    obtain ⟨cb, base, sz, ces, clock, h1, _, h3⟩ := hu
    obtain ⟨cb', base', sz', ces', clock', g1, g2, g3⟩ := hv
    exact ⟨cb', base', sz', ces', clock', by rw [hb _ (by rw [h1]; simp)]; exact g1, g2, EntR.cut hb h3 g3⟩
  | iter s pos =>
    obtain ⟨cb, sz, h1, _⟩ := hu
    obtain ⟨cb', sz', g1, g2⟩ := hv
    exact ⟨cb', sz', by rw [hb _ (by rw [h1]; simp)]; exact g1, g2⟩

/-- what was there before a call is known as it was -/
theorem Sim.gc (s : Sim β h w) (s' : Sim β' h' w') (k : Kept β h w β' h' w') (hg : ∀ b, b < h.next → h'.get b = h.get b) : ∃ β'', Sim β'' h w' ∧ Kept β h w β'' h w' ∧ ∀ b, β b ≠ none → β'' b = β' b := by
  classical
  have hlt : ∀ b, β b ≠ none → b < h.next := fun b hb => by
    rcases Nat.lt_or_ge b h.next with hh | hh
    · exact hh
    · exact absurd (s.fresh b hh) hb
  have hcut : ∀ b, β b ≠ none → (fun b => if b < h.next then β' b else none) b = β' b := fun b hb => by
    have := hlt b hb
    simp only [this, if_true]
  refine ⟨fun b => if b < h.next then β' b else none, ⟨fun b o hb => ?_, fun b b' o o' r r' h1 h2 h3 h4 h5 => ?_, fun b hb => ?_⟩, ⟨k.size, fun b r hr => ?_, fun b r hr => ?_, Nat.le_refl _, k.old, fun b o r h1 h2 => ?_, k.os, k.tape, k.output⟩, hcut⟩
  · exact ObjR.cut hcut (s.obj b o hb) (s'.obj b o (by rw [hg b (s.lt hb)]; exact hb))
  · simp only [s.lt h1, s.lt h2, if_true] at h3 h4
    exact s'.inj b b' o o' r r' (by rw [hg b (s.lt h1)]; exact h1) (by rw [hg b' (s.lt h2)]; exact h2) h3 h4 h5
  · have : ¬ b < h.next := Nat.not_lt.2 hb
    simp only [this, if_false]
  · have := hlt b (by rw [hr]; simp)
    simp only [this, if_true]
    exact k.ext _ _ hr
  · have hr' : (if b < h.next then β' b else none) = some r := hr
    split at hr'
    · rename_i hb
      rcases k.dom b r hr' with g | g
      · exact .inl g
      · omega
    · cases hr'
  · obtain ⟨r', hr', _⟩ := s.bet h1
    have h2' : (if b < h.next then β' b else none) = some r := h2
    simp only [s.lt h1, if_true] at h2'
    rw [k.ext _ _ hr'] at h2'
    cases h2'
    exact .inl ⟨b, o, _, h1, hr', rfl⟩

/-- a call that leaves the old blocks: what it hands back is told anew, its garbage let go of -/
theorem ACall.gc {f : FuncId} {args : List AV} {Q : AV → H → Prop} {v1 : AV} (hc : ACall P f args h Q)
    (hq : ∀ v h', Q v h' → (∀ b, b < h.next → h'.get b = h.get b) ∧ ∀ (β1 β2 : Bet) cv, VR β1 v cv → VR β2 v1 cv) : ACall P f args h fun v h' => v = v1 ∧ h' = h := by
  intro β w cargs g s hv
  refine (hc β w cargs g s hv).mono ?_
  rintro e w' ⟨v, h', β', cv, q, e1, hv', s', k⟩
  obtain ⟨hg, hr⟩ := hq v h' q
  obtain ⟨β2, s2, k2, _⟩ := s.gc s' k hg
  exact ⟨v1, h, β2, cv, ⟨rfl, rfl⟩, e1, hr _ _ _ hv', s2, k2⟩

end Go.Ab
