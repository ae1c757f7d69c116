/- The relation of heaps, what a step keeps, and each thing that an operation does to memory. -/
import Derived.Test.YtleafkdgnlngmaaGreatDoorAbRel
import Derived.Laws.IdiomCopy
namespace Go.Ab
open Go
variable [Th]

def EntR (β : Bet) : List (AV × AV) → List MapEntry → Prop
  | [], es => es = []
  | p :: l, es => ∃ e es', es = e :: es' ∧ VR β p.1 e.key ∧ VR β p.2 e.val ∧ EntR β l es'

theorem EntR.mono {β β' : Bet} (h : ∀ b r, β b = some r → β' b = some r) : ∀ {l : List (AV × AV)} {es : List MapEntry}, EntR β l es → EntR β' l es
  | [], _, hv => hv
  | _ :: _, _, ⟨e, es', rfl, h1, h2, h3⟩ => ⟨e, es', rfl, VR.mono h _ _ h1, VR.mono h _ _ h2, EntR.mono h h3⟩

def ObjR (β : Bet) (w : World) (b : Nat) : AObj → Prop
  | .cells c plain => ∃ cb base sz cc e fr, β b = some (cb, base, sz) ∧ w.heap[cb]? = some (.cells cc e fr) ∧ cc.size = sz ∧
      (∀ i, i < sz → ¬ (fr.1 ≤ i ∧ i < fr.2)) ∧ (plain = true → ∀ i, ¬ (fr.1 ≤ i ∧ i < fr.2)) ∧ base + c.length ≤ sz ∧
      ∀ (i : Nat) (v : AV), c[i]? = some v → ∃ u, cc[base + i]? = some u ∧ VR β v u
  | .map es => ∃ cb base sz ces clock, β b = some (cb, base, sz) ∧ w.heap[cb]? = some (.map ces clock) ∧ EntR β es ces.toList
  | .iter s pos => ∃ cb sz, β b = some (cb, 0, sz) ∧ w.heap[cb]? = some (.stringIter ⟨⟨s⟩⟩ pos)

theorem ObjR.bet {β : Bet} {w : World} {b : Nat} {o : AObj} (h : ObjR β w b o) : ∃ r x, β b = some r ∧ w.heap[r.1]? = some x := by
  cases o with
  | cells c p => obtain ⟨cb, base, sz, cc, e, fr, h1, h2, _⟩ := h; exact ⟨_, _, h1, h2⟩
  | map es => obtain ⟨cb, base, sz, ces, clock, h1, h2, _⟩ := h; exact ⟨_, _, h1, h2⟩
  | iter s pos => obtain ⟨cb, sz, h1, h2⟩ := h; exact ⟨_, _, h1, h2⟩

theorem ObjR.turn {β β' : Bet} {w w' : World} {b : Nat} {o : AObj} (hb : ∀ b r, β b = some r → β' b = some r)
    (hw : ∀ r, β b = some r → w'.heap[r.1]? = w.heap[r.1]?) (h : ObjR β w b o) : ObjR β' w' b o := by
  cases o with
  | cells c p =>
    obtain ⟨cb, base, sz, cc, e, fr, h1, h2, h3, h4, h5, h6, h7⟩ := h
    exact ⟨cb, base, sz, cc, e, fr, hb _ _ h1, (hw _ h1).trans h2, h3, h4, h5, h6, fun i v hv => let ⟨u, hu, r⟩ := h7 i v hv; ⟨u, hu, VR.mono hb _ _ r⟩⟩
  | map es =>
    obtain ⟨cb, base, sz, ces, clock, h1, h2, h3⟩ := h
    exact ⟨cb, base, sz, ces, clock, hb _ _ h1, (hw _ h1).trans h2, h3.mono hb⟩
  | iter s pos =>
    obtain ⟨cb, sz, h1, h2⟩ := h
    exact ⟨cb, sz, hb _ _ h1, (hw _ h1).trans h2⟩

structure Sim (β : Bet) (h : H) (w : World) : Prop where
  obj : ∀ b o, h.get b = some o → ObjR β w b o
  inj : ∀ b b' o o' r r', h.get b = some o → h.get b' = some o' → β b = some r → β b' = some r' → r.1 = r'.1 → b = b'
  fresh : ∀ b, h.next ≤ b → β b = none

theorem Sim.bet {β : Bet} {h : H} {w : World} (s : Sim β h w) {b : Nat} {o : AObj} (hb : h.get b = some o) : ∃ r, β b = some r ∧ r.1 < w.heap.size := by
  obtain ⟨r, x, h1, h2⟩ := (s.obj b o hb).bet
  exact ⟨r, h1, by rcases Nat.lt_or_ge r.1 w.heap.size with hh | hh
                   · exact hh
                   · rw [Array.getElem?_eq_none hh] at h2; cases h2⟩

theorem Sim.lt {β : Bet} {h : H} {w : World} (s : Sim β h w) {b : Nat} {o : AObj} (hb : h.get b = some o) : b < h.next := by
  obtain ⟨r, h1, _⟩ := s.bet hb
  rcases Nat.lt_or_ge b h.next with hh | hh
  · exact hh
  · rw [s.fresh b hh] at h1; cases h1

structure Kept (β : Bet) (h : H) (w : World) (β' : Bet) (h' : H) (w' : World) : Prop where
  size : w.heap.size ≤ w'.heap.size
  ext : ∀ b r, β b = some r → β' b = some r
  dom : ∀ b r, β' b = some r → β b = some r ∨ h.next ≤ b
  next : h.next ≤ h'.next
  old : ∀ k, k < w.heap.size → (∀ b o r, h.get b = some o → β b = some r → r.1 ≠ k) → w'.heap[k]? = w.heap[k]?
  new : ∀ b o r, h'.get b = some o → β' b = some r → (∃ b0 o0 r0, h.get b0 = some o0 ∧ β b0 = some r0 ∧ r0.1 = r.1) ∨ w.heap.size ≤ r.1
  os : w'.os = w.os
  tape : w'.tape = w.tape
  output : w'.output = w.output

omit [Th] in
theorem Kept.refl (β : Bet) (h : H) (w : World) : Kept β h w β h w :=
  ⟨Nat.le_refl _, fun _ _ x => x, fun _ _ x => .inl x, Nat.le_refl _, fun _ _ _ => rfl, fun b o r h1 h2 => .inl ⟨b, o, r, h1, h2, rfl⟩, rfl, rfl, rfl⟩

omit [Th] in
theorem Kept.trans {β β1 β2 : Bet} {h h1 h2 : H} {w w1 w2 : World} (a : Kept β h w β1 h1 w1) (b : Kept β1 h1 w1 β2 h2 w2) : Kept β h w β2 h2 w2 where
  size := Nat.le_trans a.size b.size
  ext := fun x r hx => b.ext _ _ (a.ext _ _ hx)
  dom := fun x r hx => by
    rcases b.dom _ _ hx with h | h
    · exact a.dom _ _ h
    · exact .inr (Nat.le_trans a.next h)
  next := Nat.le_trans a.next b.next
  old := fun k hk hne => by
    rw [b.old k (Nat.lt_of_lt_of_le hk a.size) (fun x o r hx hr e => ?_), a.old k hk hne]
    rcases a.new x o r hx hr with ⟨b0, o0, r0, g1, g2, g3⟩ | g
    · exact hne b0 o0 r0 g1 g2 (g3.trans e)
    · omega
  new := fun x o r hx hr => by
    rcases b.new x o r hx hr with ⟨b0, o0, r0, g1, g2, g3⟩ | g
    · rcases a.new b0 o0 r0 g1 g2 with ⟨b1, o1, r1, k1, k2, k3⟩ | k
      · exact .inl ⟨b1, o1, r1, k1, k2, k3.trans g3⟩
      · exact .inr (g3 ▸ k)
    · exact .inr (Nat.le_trans a.size g)
  os := b.os.trans a.os
  tape := b.tape.trans a.tape
  output := b.output.trans a.output

/-- a draw from the tape changes nothing that is seen -/
theorem Sim.drew {β : Bet} {h : H} {w : World} (s : Sim β h w) : Sim β h w.drew :=
  ⟨fun b o hb => ObjR.turn (fun _ _ x => x) (fun _ _ => rfl) (s.obj b o hb), s.inj, s.fresh⟩
omit [Th] in
theorem Kept.drew (β : Bet) (h : H) (w : World) : Kept β h w β h w.drew :=
  ⟨Nat.le_refl _, fun _ _ x => x, fun _ _ x => .inl x, Nat.le_refl _, fun _ _ _ => rfl, fun b o r h1 h2 => .inl ⟨b, o, r, h1, h2, rfl⟩, rfl, rfl, rfl⟩

/-! reading -/
theorem Sim.cells {β : Bet} {h : H} {w : World} (s : Sim β h w) {b : Nat} {x : AObj} {c : List AV} (hb : h.get b = some x) (hc : asCells x = some c) {cb base sz : Nat} (hβ : β b = some (cb, base, sz)) :
    ∃ cc e fr, w.heap[cb]? = some (.cells cc e fr) ∧ cc.size = sz ∧ (∀ i, i < sz → ¬ (fr.1 ≤ i ∧ i < fr.2)) ∧ (asPlain x = true → ∀ i, ¬ (fr.1 ≤ i ∧ i < fr.2)) ∧ base + c.length ≤ sz ∧
      ∀ (i : Nat) (v : AV), c[i]? = some v → ∃ u, cc[base + i]? = some u ∧ VR β v u := by
  have ho := s.obj b x hb
  cases x with
  | cells c' p =>
    simp only [asCells, Option.some.injEq] at hc
    subst hc
    obtain ⟨cb', base', sz', cc, e, fr, h1, h2, h3, h4, h5, h6, h7⟩ := ho
    rw [h1] at hβ
    simp only [Option.some.injEq, Prod.mk.injEq] at hβ
    obtain ⟨rfl, rfl, rfl⟩ := hβ
    exact ⟨cc, e, fr, h2, h3, h4, h5, h6, h7⟩
  | map es => cases hc
  | iter s p => cases hc

theorem Sim.cell {β : Bet} {h : H} {w : World} (s : Sim β h w) {b o : Nat} {v : AV} (hl : loadCell h b o = some v) {cb base sz : Nat} (hβ : β b = some (cb, base, sz)) :
    ∃ u, w.cell? ⟨cb, base + o, none⟩ = some u ∧ VR β v u := by
  unfold loadCell at hl
  simp only [ob_eq] at hl
  obtain ⟨x, hb, c, hc, hv⟩ := hl
  rw [nth_eq] at hv
  obtain ⟨cc, e, fr, h1, h2, h3, h4, h5, h6⟩ := s.cells hb hc hβ
  obtain ⟨u, hu, hr⟩ := h6 o v hv
  exact ⟨u, by simp only [World.cell?, h1]; exact hu, hr⟩

theorem Sim.cellsAt {β : Bet} {h : H} {w : World} (s : Sim β h w) {b o n : Nat} {l : List AV} (hl : loadCells h b o n = some l) {cb base sz : Nat} (hβ : β b = some (cb, base, sz)) :
    ∃ us, us.length = n ∧ VRs β l us ∧ (n = 0 ∨ base + o + n ≤ sz) ∧ ∀ j u, us[j]? = some u → w.cell? ⟨cb, base + o + j, none⟩ = some u := by
  unfold loadCells at hl
  simp only [ob_eq] at hl
  obtain ⟨x, hb, c, hc, hv⟩ := hl
  obtain ⟨g1, g2, g3⟩ := takeN_dropN hv
  obtain ⟨cc, e, fr, h1, h2, h3, h4, h5, h6⟩ := s.cells hb hc hβ
  refine ⟨(cc.toList.drop (base + o)).take n, ?_, ?_, ?_, ?_⟩
  · rw [List.length_take, List.length_drop, Array.length_toList]; omega
  · rw [VRs_iff]
    refine ⟨by rw [g1, List.length_take, List.length_drop, Array.length_toList]; omega, fun i a v ha hv' => ?_⟩
    have hi : i < n := by
      rcases Nat.lt_or_ge i n with hh | hh
      · exact hh
      · rw [List.getElem?_eq_none (by omega)] at ha; cases ha
    rw [g3 i hi] at ha
    obtain ⟨u, hu, hr⟩ := h6 (o + i) a ha
    rw [List.getElem?_take, if_pos hi, List.getElem?_drop, Array.getElem?_toList] at hv'
    rw [show base + o + i = base + (o + i) by omega] at hv'
    rw [hu] at hv'
    cases hv'
    exact hr
  · omega
  · intro j u hu
    have hj : j < n := by
      rcases Nat.lt_or_ge j n with hh | hh
      · exact hh
      · rw [List.getElem?_take, if_neg (by omega)] at hu; cases hu
    rw [List.getElem?_take, if_pos hj, List.getElem?_drop, Array.getElem?_toList] at hu
    simp only [World.cell?, h1]
    exact hu

/-! writing -/
omit [Th] in
theorem setHere_eq (vs : List AV) : ∀ {c r : List AV}, setHere vs c = some r → (∀ v ∈ vs, v.one = true) ∧ vs.length ≤ c.length ∧ r = vs ++ c.drop vs.length := by
  induction vs with
  | nil => intro c r h; simp only [setHere, Option.some.injEq] at h; subst h; exact ⟨by simp, by simp, by simp⟩
  | cons v vs ih =>
    intro c r h
    cases c with
    | nil =>
      have : bc v.one none none = some r := h
      cases hv : v.one <;> rw [hv] at this <;> cases this
    | cons x c =>
      have h' : bc v.one (ob (setHere vs c) fun r => some (v :: r)) none = some r := h
      rw [bc_none] at h'
      obtain ⟨h1, h2⟩ := h'
      rw [ob_eq] at h2
      obtain ⟨r', h3, h4⟩ := h2
      obtain ⟨g1, g2, g3⟩ := ih h3
      simp only [Option.some.injEq] at h4
      subst h4
      refine ⟨fun y hy => ?_, by simp; omega, by simp [g3]⟩
      rcases List.mem_cons.1 hy with rfl | hy
      · exact h1
      · exact g1 y hy

omit [Th] in
theorem setRange_eq (c : List AV) : ∀ {o : Nat} {vs r : List AV}, setRange c o vs = some r → (∀ v ∈ vs, v.one = true) ∧ o + vs.length ≤ c.length ∧ r = c.take o ++ vs ++ c.drop (o + vs.length) := by
  induction c with
  | nil =>
    intro o vs r h
    have h' : bc (Nat.beq o 0) (setHere vs []) none = some r := h
    rw [bc_none] at h'
    obtain ⟨h1, h2⟩ := h'
    have ho : o = 0 := beq_t.1 h1
    subst ho
    obtain ⟨g1, g2, g3⟩ := setHere_eq vs h2
    refine ⟨g1, by simpa using g2, by simpa using g3⟩
  | cons x c ih =>
    intro o vs r h
    have h' : bc (Nat.beq o 0) (setHere vs (x :: c)) (ob (setRange c (o - 1) vs) fun r => some (x :: r)) = some r := h
    cases o with
    | zero =>
      obtain ⟨g1, g2, g3⟩ := setHere_eq vs (c := x :: c) (r := r) h'
      refine ⟨g1, by simpa using g2, by simpa using g3⟩
    | succ o =>
      have h2 : ob (setRange c o vs) (fun r => some (x :: r)) = some r := h'
      rw [ob_eq] at h2
      obtain ⟨r', h3, h4⟩ := h2
      obtain ⟨g1, g2, g3⟩ := ih h3
      simp only [Option.some.injEq] at h4
      subst h4
      refine ⟨g1, by simp; omega, ?_⟩
      rw [g3, show o + 1 + vs.length = (o + vs.length) + 1 by omega]
      simp

omit [Th] in
theorem setCells_heap (b : Nat) : ∀ (vs : List Value) (o : Nat) (w : World), (w.setCells b o vs).os = w.os ∧ (w.setCells b o vs).tape = w.tape ∧ (w.setCells b o vs).output = w.output ∧ (w.setCells b o vs).heap.size = w.heap.size ∧
    (∀ k, k ≠ b → (w.setCells b o vs).heap[k]? = w.heap[k]?) ∧
    ∀ cc e fr, w.heap[b]? = some (.cells cc e fr) → ∃ cc', (w.setCells b o vs).heap[b]? = some (.cells cc' e fr) ∧ cc'.size = cc.size ∧ ∀ i, cc'[i]? = if o ≤ i ∧ i < o + vs.length ∧ i < cc.size then vs[i - o]? else cc[i]?
  | [], o, w => by
    refine ⟨rfl, rfl, rfl, rfl, fun _ _ => rfl, fun cc e fr h => ⟨cc, h, rfl, fun i => ?_⟩⟩
    rw [if_neg (by simp; omega)]
  | v :: vs, o, w => by
    have ih := setCells_heap b vs (o + 1) (w.setCell ⟨b, o, none⟩ v)
    have hother : ∀ k, k ≠ b → (w.setCell ⟨b, o, none⟩ v).heap[k]? = w.heap[k]? := by
      intro k hk
      simp only [World.setCell]
      rw [Array.getElem?_modify]
      rw [if_neg (by intro h; exact hk h.symm)]
    obtain ⟨i1, i2, i3, i4, i5, i6⟩ := ih
    refine ⟨i1, i2, i3, i4.trans (World.size_setCell ..), fun k hk => (i5 k hk).trans (hother k hk), fun cc e fr h => ?_⟩
    have hb : (w.setCell ⟨b, o, none⟩ v).heap[b]? = some (.cells (cc.setIfInBounds o v) e fr) := by
      simp only [World.setCell]
      rw [Array.getElem?_modify, if_pos rfl, h]
      rfl
    obtain ⟨cc', g1, g2, g3⟩ := i6 _ _ _ hb
    refine ⟨cc', g1, by rw [g2]; simp, fun i => ?_⟩
    rw [g3 i]
    simp only [Array.size_setIfInBounds, List.length_cons]
    by_cases h1 : o + 1 ≤ i ∧ i < o + 1 + vs.length ∧ i < cc.size
    · rw [if_pos h1, if_pos (by omega)]
      rw [show i - o = (i - (o + 1)) + 1 by omega]
      simp
    · rw [if_neg h1]
      rw [Array.getElem?_setIfInBounds]
      by_cases h2 : o = i
      · subst h2
        by_cases h3 : o < cc.size
        · rw [if_pos rfl, if_pos h3, if_pos (by omega)]; simp
        · rw [if_pos rfl, if_neg h3, if_neg (by omega)]; simp; omega
      · rw [if_neg h2, if_neg (by omega)]

/-- cells of a block are written: the block's new cells -/
theorem Sim.write {β : Bet} {h : H} {w : World} (s : Sim β h w) {b o : Nat} {x : AObj} {c c' : List AV} {vs : List AV} {us : List Value} (hb : h.get b = some x) (hc : asCells x = some c) (hv : VRs β vs us)
    (hr : setRange c o vs = some c') {cb base sz : Nat} (hβ : β b = some (cb, base, sz)) :
    Sim β (h.set b (.cells c' (asPlain x))) (w.setCells cb (base + o) us) ∧ Kept β h w β (h.set b (.cells c' (asPlain x))) (w.setCells cb (base + o) us) := by
  obtain ⟨g1, g2, g3⟩ := setRange_eq c hr
  obtain ⟨cc, e, fr, h1, h2, h3, h4, h5, h6⟩ := s.cells hb hc hβ
  obtain ⟨i1, i2, i3, i4, i5, i6⟩ := setCells_heap cb us (base + o) w
  obtain ⟨cc', k1, k2, k3⟩ := i6 _ _ _ h1
  have hlen := hv.len
  have hother : ∀ b' o' r, h.get b' = some o' → β b' = some r → b' ≠ b → r.1 ≠ cb := by
    intro b' o' r hb' hr' hne e
    exact hne (s.inj b' b o' x r _ hb' hb hr' hβ e)
  refine ⟨⟨fun b' o' hb' => ?_, fun b1 b2 o1 o2 r1 r2 e1 e2 e3 e4 e5 => ?_, fun b' hb' => s.fresh b' hb'⟩, ?_⟩
  · rw [H.get_set] at hb'
    by_cases hbb : b = b'
    · subst hbb
      rw [if_pos rfl] at hb'
      simp only [Option.some.injEq] at hb'
      subst hb'
      refine ⟨cb, base, sz, cc', e, fr, hβ, k1, k2.trans h2, h3, h4, ?_, fun i v hi => ?_⟩
      · rw [g3]; simp; omega
      · rw [g3] at hi
        rw [k3]
        rw [List.append_assoc, List.getElem?_append, List.length_take] at hi
        by_cases hlt : i < o
        · rw [if_pos (by omega), List.getElem?_take, if_pos hlt] at hi
          rw [if_neg (by omega)]
          exact h6 i v hi
        · rw [if_neg (by omega), List.getElem?_append] at hi
          by_cases hlt2 : i < o + vs.length
          · rw [if_pos (by omega)] at hi
            rw [if_pos (by omega)]
            obtain ⟨u, hu, hr⟩ := hv.at hi
            refine ⟨u, ?_, hr⟩
            rw [show base + i - (base + o) = i - min o c.length by omega]
            exact hu
          · rw [if_neg (by omega), List.getElem?_drop] at hi
            rw [if_neg (by omega)]
            rw [show o + vs.length + (i - min o c.length - vs.length) = i by omega] at hi
            exact h6 i v hi
    · rw [if_neg hbb] at hb'
      refine ObjR.turn (fun _ _ x => x) (fun r hr' => i5 _ (hother b' o' r hb' hr' (fun e => hbb e.symm))) (s.obj b' o' hb')
  · rw [H.get_set] at e1 e2
    have f1 : ∃ o1', h.get b1 = some o1' := by
      by_cases hbb : b = b1
      · exact ⟨x, hbb ▸ hb⟩
      · rw [if_neg hbb] at e1; exact ⟨_, e1⟩
    have f2 : ∃ o2', h.get b2 = some o2' := by
      by_cases hbb : b = b2
      · exact ⟨x, hbb ▸ hb⟩
      · rw [if_neg hbb] at e2; exact ⟨_, e2⟩
    exact s.inj b1 b2 _ _ r1 r2 f1.choose_spec f2.choose_spec e3 e4 e5
  · refine ⟨Nat.le_of_eq i4.symm, fun _ _ x => x, fun _ _ x => .inl x, Nat.le_refl _, fun k hk hne => i5 k (fun e => hne b x _ hb hβ e.symm), fun b' o' r hb' hr' => .inl ?_, i1, i2, i3⟩
    rw [H.get_set] at hb'
    by_cases hbb : b = b'
    · subst hbb; exact ⟨b, x, r, hb, hr', rfl⟩
    · rw [if_neg hbb] at hb'; exact ⟨b', o', r, hb', hr', rfl⟩

/-! new blocks -/
def Bet.put (β : Bet) (b : Nat) (r : Nat × Nat × Nat) : Bet := fun x => if x = b then some r else β x

omit [Th] in
theorem Bet.put_same (β : Bet) (b : Nat) (r : Nat × Nat × Nat) : β.put b r b = some r := if_pos rfl
omit [Th] in
theorem Bet.put_ext {β : Bet} {b : Nat} {r : Nat × Nat × Nat} (h : β b = none) : ∀ x y, β x = some y → β.put b r x = some y := by
  intro x y hx
  unfold Bet.put
  by_cases e : x = b
  · subst e; rw [h] at hx; cases hx
  · rw [if_neg e]; exact hx

/-- a new block of the model's, and of the evaluator's, behind all that was -/
theorem Sim.make {β : Bet} {h : H} {w : World} (s : Sim β h w) (o : AObj) (x : Obj) (base sz : Nat)
    (ho : ∀ β' w', (∀ b r, β b = some r → β' b = some r) → β' h.next = some (w.heap.size, base, sz) → w'.heap[w.heap.size]? = some x → ObjR β' w' h.next o) :
    Sim (β.put h.next (w.heap.size, base, sz)) (h.new o) (w.alloc x) ∧ Kept β h w (β.put h.next (w.heap.size, base, sz)) (h.new o) (w.alloc x) := by
  have hext := Bet.put_ext (r := (w.heap.size, base, sz)) (s.fresh h.next (Nat.le_refl _))
  have hnew : (w.alloc x).heap[w.heap.size]? = some x := by show (w.heap.push x)[w.heap.size]? = some x; simp
  have hold : ∀ k, k < w.heap.size → (w.alloc x).heap[k]? = w.heap[k]? := by
    intro k hk; show (w.heap.push x)[k]? = w.heap[k]?; rw [Array.getElem?_push, if_neg (by omega)]
  have hlt : ∀ b o', h.get b = some o' → ∀ r, β b = some r → r.1 < w.heap.size := by
    intro b o' hb r hr
    obtain ⟨r', h1, h2⟩ := s.bet hb
    rw [hr] at h1; cases h1; exact h2
  have cases' : ∀ b o', (h.new o).get b = some o' → ∀ r, β.put h.next (w.heap.size, base, sz) b = some r → (b = h.next ∧ o' = o ∧ r.1 = w.heap.size) ∨ (b ≠ h.next ∧ h.get b = some o' ∧ β b = some r) := by
    intro b o' hb r hr
    rw [H.get_new] at hb
    by_cases e : h.next = b
    · subst e
      rw [if_pos rfl] at hb
      rw [Bet.put_same] at hr
      cases hb; cases hr
      exact .inl ⟨rfl, rfl, rfl⟩
    · rw [if_neg e] at hb
      unfold Bet.put at hr
      rw [if_neg (fun e' => e e'.symm)] at hr
      exact .inr ⟨fun e' => e e'.symm, hb, hr⟩
  refine ⟨⟨fun b o' hb => ?_, fun b1 b2 o1 o2 r1 r2 e1 e2 e3 e4 e5 => ?_, fun b hb => ?_⟩, ?_⟩
  · rw [H.get_new] at hb
    by_cases e : h.next = b
    · subst e
      rw [if_pos rfl] at hb
      cases hb
      exact ho _ _ hext (Bet.put_same ..) hnew
    · rw [if_neg e] at hb
      exact ObjR.turn hext (fun r hr => hold _ (hlt b o' hb r hr)) (s.obj b o' hb)
  · rcases cases' b1 o1 e1 r1 e3 with ⟨a1, a2, a3⟩ | ⟨a1, a2, a3⟩ <;> rcases cases' b2 o2 e2 r2 e4 with ⟨c1, c2, c3⟩ | ⟨c1, c2, c3⟩
    · exact a1.trans c1.symm
    · have := hlt b2 o2 c2 r2 c3; omega
    · have := hlt b1 o1 a2 r1 a3; omega
    · exact s.inj b1 b2 o1 o2 r1 r2 a2 c2 a3 c3 e5
  · rw [H.next_new] at hb
    unfold Bet.put
    rw [if_neg (by omega)]
    exact s.fresh b (by omega)
  · refine ⟨by simp, hext, fun b r hr => ?_, by rw [H.next_new]; omega, fun k hk _ => hold k hk, fun b o' r hb hr => ?_, rfl, rfl, rfl⟩
    · unfold Bet.put at hr
      by_cases e : b = h.next
      · exact .inr (by omega)
      · rw [if_neg e] at hr; exact .inl hr
    · rcases cases' b o' hb r hr with ⟨a1, a2, a3⟩ | ⟨a1, a2, a3⟩
      · exact .inr (by omega)
      · exact .inl ⟨b, o', r, a2, a3, rfl⟩

/-- a block is given up here (it stays in the model's memory) -/
theorem Sim.kill {β : Bet} {h : H} {w : World} (s : Sim β h w) (b : Nat) : Sim β (h.kill b) w ∧ Kept β h w β (h.kill b) w := by
  have hg : ∀ b' o, (h.kill b).get b' = some o → h.get b' = some o := by
    intro b' o hb'
    rw [H.get_kill] at hb'
    by_cases e : b = b'
    · rw [if_pos e] at hb'; cases hb'
    · rw [if_neg e] at hb'; exact hb'
  refine ⟨⟨fun b' o hb' => s.obj b' o (hg _ _ hb'), fun b1 b2 o1 o2 r1 r2 e1 e2 => s.inj b1 b2 o1 o2 r1 r2 (hg _ _ e1) (hg _ _ e2), s.fresh⟩, ?_⟩
  exact ⟨Nat.le_refl _, fun _ _ x => x, fun _ _ x => .inl x, Nat.le_refl _, fun _ _ _ => rfl, fun b' o r h1 h2 => .inl ⟨b', o, r, hg _ _ h1, h2, rfl⟩, rfl, rfl, rfl⟩

end Go.Ab
