/- A region that draws its order: what must be done ahead, which slots an operation reads. -/
import Derived.Test.YtleafkdgnlngmaaGreatDoorAbDraw2
namespace Go.Ab
open Go
variable {P : Program} {X : Ext}

theorem fold_bits (acc : List Nat) : ∀ (es : List Edge) (s j : Nat), Nat.testBit (es.foldl (fun s e => if bindsA e then Nat.lor (Nat.lor s (Nat.pow 2 e.on)) ((nth acc e.on).getD 0) else s) s) j = true →
    Nat.testBit s j = true ∨ ∃ e ∈ es, bindsA e = true ∧ (j = e.on ∨ Nat.testBit ((nth acc e.on).getD 0) j = true)
  | [], s, j, h => .inl h
  | e :: es, s, j, h => by
    rw [List.foldl_cons] at h
    rcases fold_bits acc es _ j h with h | ⟨e', he, hb, hj⟩
    · by_cases hb : bindsA e = true
      · rw [if_pos hb] at h
        have h' : Nat.testBit ((s ||| 2 ^ e.on) ||| ((nth acc e.on).getD 0)) j = true := h
        rw [Nat.testBit_or, Nat.testBit_or, Nat.testBit_two_pow, Bool.or_eq_true, Bool.or_eq_true, decide_eq_true_iff] at h'
        rcases h' with (h' | h') | h'
        · exact .inl h'
        · exact .inr ⟨e, by simp, hb, .inl h'.symm⟩
        · exact .inr ⟨e, by simp, hb, .inr h'⟩
      · rw [if_neg hb] at h; exact .inl h
    · exact .inr ⟨e', by simp [he], hb, hj⟩

theorem preOf_spec : ∀ (l : List Oper) (acc : List Nat), (∃ tl, preOf l acc = acc ++ tl) ∧ (preOf l acc).length = acc.length + l.length ∧
    ∀ (i : Nat) (o : Oper), l[i]? = some o → ∃ pi, (preOf l acc)[acc.length + i]? = some pi ∧ ∀ j, Nat.testBit pi j = true →
      ∃ e ∈ o.after.toList, bindsA e = true ∧ (j = e.on ∨ (e.on < acc.length + i ∧ ∃ pe, (preOf l acc)[e.on]? = some pe ∧ Nat.testBit pe j = true))
  | [], acc => ⟨⟨[], (List.append_nil _).symm⟩, rfl, fun i o h => by simp at h⟩
  | o :: l, acc => by
    generalize hx : o.after.toList.foldl (fun s e => if bindsA e then Nat.lor (Nat.lor s (Nat.pow 2 e.on)) ((nth acc e.on).getD 0) else s) 0 = x
    have hr : preOf (o :: l) acc = preOf l (acc ++ [x]) := by rw [← hx]; rfl
    obtain ⟨⟨tl, h1⟩, h2, h3⟩ := preOf_spec l (acc ++ [x])
    rw [hr]
    refine ⟨⟨x :: tl, by rw [h1]; simp⟩, by rw [h2]; simp; omega, fun i oi hi => ?_⟩
    cases i with
    | zero =>
      simp only [List.getElem?_cons_zero, Option.some.injEq] at hi
      subst hi
      refine ⟨x, by rw [h1]; simp, fun j hj => ?_⟩
      rw [← hx] at hj
      rcases fold_bits acc _ 0 j hj with h | ⟨e, he, hb, hj⟩
      · simp at h
      · refine ⟨e, he, hb, ?_⟩
        rcases hj with hj | hj
        · exact .inl hj
        · rw [nth_eq] at hj
          cases hp : acc[e.on]? with
          | none => rw [hp] at hj; simp at hj
          | some pe =>
            rw [hp] at hj
            have hlt := lt_of_get hp
            refine .inr ⟨by omega, pe, ?_, hj⟩
            rw [h1, List.append_assoc, List.getElem?_append_left hlt]; exact hp
    | succ i =>
      simp only [List.getElem?_cons_succ] at hi
      obtain ⟨pi, g1, g2⟩ := h3 i oi hi
      rw [List.length_append, List.length_singleton, show acc.length + 1 + i = acc.length + (i + 1) by omega] at g1 g2
      exact ⟨pi, g1, g2⟩

theorem drawOk_spec {ops : List Oper} {pre : List Nat} (h : drawOk ops pre = true) (j : Nat) (oj : Oper) (hj : ops[j]? = some oj) :
    (∀ e ∈ oj.after.toList, bindsA e = true → e.on < j) ∧ ∀ (i : Nat) (oi : Oper) (t : Nat), ops[i]? = some oi → i ≠ j → oi.dst = some t →
      oj.dst ≠ some t ∧ (t ∈ readsOf ops oj → Nat.testBit ((nth pre j).getD 0) i = true ∨ Nat.testBit ((nth pre i).getD 0) j = true) := by
  unfold drawOk at h
  rw [List.all_eq_true] at h
  have h1 := h (oj, j) (List.mem_zipIdx_iff_getElem?.2 hj)
  simp only [Bool.and_eq_true] at h1
  obtain ⟨h1, h2⟩ := h1
  refine ⟨fun e he hb => ?_, fun i oi t hi hne ht => ?_⟩
  · have := List.all_eq_true.1 h1 e he
    rw [hb] at this
    exact blt_t.1 (by simpa using this)
  · have := List.all_eq_true.1 h2 (oi, i) (List.mem_zipIdx_iff_getElem?.2 hi)
    simp only [beq_f.2 hne, Bool.false_or, ht, Bool.and_eq_true, Bool.or_eq_true, Bool.not_eq_true'] at this
    obtain ⟨g1, g2⟩ := this
    refine ⟨fun e => ?_, fun hr => ?_⟩
    · rw [e] at g1
      simp only [Bool.not_eq_true', beq_f] at g1
      exact g1 rfl
    · rcases g2 with g2 | g2
      · have hany : (readsOf ops oj).any (Nat.beq t) = true := List.any_eq_true.2 ⟨t, hr, beq_t.2 rfl⟩
        rw [hany] at g2; cases g2
      · exact g2

/-- the slots that stand in a list, and no other one -/
noncomputable def restr (ρ : Fm) (l : List Nat) : Fm := ⟨ρ.n, l.foldl (fun tr t => Tr.set tr t (tget ρ t)) .e⟩

theorem restr_get (ρ : Fm) (l : List Nat) (t : Nat) : tget (restr ρ l) t = if t ∈ l then tget ρ t else none := by
  have key : ∀ (l : List Nat) (tr : Tr AV), (l.foldl (fun tr t => Tr.set tr t (tget ρ t)) tr).get t = if t ∈ l then tget ρ t else tr.get t := by
    intro l
    induction l with
    | nil => intro tr; simp
    | cons a l ih =>
      intro tr
      rw [List.foldl_cons, ih, Tr.get_set]
      by_cases h1 : t ∈ l
      · rw [if_pos h1, if_pos (by simp [h1])]
      · rw [if_neg h1]
        by_cases h2 : a = t
        · subst h2; rw [if_pos rfl, if_pos (by simp)]
        · rw [if_neg h2, if_neg (by simp [h1]; exact fun e => h2 e.symm)]
  show (l.foldl (fun tr t => Tr.set tr t (tget ρ t)) .e).get t = _
  rw [key, Tr.get_e]

theorem restr_wanted {ops : List Oper} {ρ : Fm} {o : Oper} : wantedA ops (restr ρ (readsOf ops o)) o.guard = wantedA ops ρ o.guard := by
  cases hg : o.guard with
  | none => rfl
  | some q =>
    show ob (guardTmp ops q.1) (fun d => ob (tget (restr ρ (readsOf ops o)) d) fun v => wants q.2 v) = ob (guardTmp ops q.1) (fun d => ob (tget ρ d) fun v => wants q.2 v)
    cases hd : guardTmp ops q.1 with
    | none => rfl
    | some d =>
      rw [ob_some, ob_some, restr_get, if_pos]
      unfold readsOf
      rw [hg]
      obtain ⟨j, b⟩ := q
      simp only at hd
      simp [hd]

theorem restr_exec {ops : List Oper} {ρ : Fm} {o : Oper} {h : H} : exec P X (ev P (restr ρ (readsOf ops o))) h o.op = exec P X (ev P ρ) h o.op := by
  refine exec_congr fun x hx => ?_
  cases x with
  | tmp t =>
    show tget (restr ρ (readsOf ops o)) t = tget ρ t
    rw [restr_get, if_pos]
    unfold readsOf
    refine List.mem_append_left _ (List.mem_flatMap.2 ⟨_, hx, ?_⟩)
    simp [tmpOf]
  | _ => rfl

theorem put_getD (a : Act) (dst : Option Tmp) (cv : Value) (t : Nat) : (dst ≠ some t → (a.put dst cv).tmps.getD t Go.undef = a.tmps.getD t Go.undef) ∧ (dst = some t → t < a.tmps.size → (a.put dst cv).tmps.getD t Go.undef = cv) := by
  cases dst with
  | none => exact ⟨fun _ => rfl, fun e => by cases e⟩
  | some d =>
    refine ⟨fun e => ?_, fun e h => ?_⟩
    · simp only [Act.put]
      rw [Array.getD_eq_getD_getElem?, Array.getD_eq_getD_getElem?, Array.getElem?_setIfInBounds, if_neg (fun e' => e (by rw [e']))]
    · simp only [Option.some.injEq] at e
      subst e
      simp only [Act.put]
      rw [Array.getD_eq_getD_getElem?, Array.getElem?_setIfInBounds]
      simp [h]

theorem put_size (a : Act) (dst : Option Tmp) (cv : Value) : (a.put dst cv).tmps.size = a.tmps.size ∧ (a.put dst cv).defers = a.defers := by
  cases dst with
  | none => exact ⟨rfl, rfl⟩
  | some d => exact ⟨by simp [Act.put], rfl⟩

theorem putT_lt {ρ ρ' : Fm} {t : Nat} {v : AV} (h : putT ρ (some t) v = some ρ') : t < ρ.n := by
  obtain ⟨n, tr⟩ := ρ
  have h' : bc (Nat.blt t n) (some (⟨n, Tr.set tr t (some v)⟩ : Fm)) none = some ρ' := h
  rw [bc_none, blt_t] at h'
  exact h'.1

/-- how many of the first ones are so -/
def cnt (f : Nat → Bool) : Nat → Nat
  | 0 => 0
  | n + 1 => cnt f n + if f n then 1 else 0

theorem cnt_zero {f : Nat → Bool} : ∀ {n : Nat}, cnt f n = 0 → ∀ i, i < n → f i = false
  | 0, _, i, hi => by omega
  | n + 1, h, i, hi => by
    simp only [cnt] at h
    by_cases e : i = n
    · subst e
      cases hf : f i with
      | false => rfl
      | true => rw [hf] at h; simp at h
    · exact cnt_zero (n := n) (by omega) i (by omega)

theorem cnt_less {f g : Nat → Bool} {i : Nat} (h1 : f i = true) (h2 : g i = false) (h3 : ∀ j, j ≠ i → g j = f j) : ∀ n, cnt f n = cnt g n + if i < n then 1 else 0
  | 0 => by simp [cnt]
  | n + 1 => by
    simp only [cnt]
    rw [cnt_less h1 h2 h3 n]
    by_cases e : n = i
    · subst e; rw [h1, h2]; simp
    · rw [h3 n e]
      by_cases hlt : i < n
      · have a : i < n + 1 := by omega
        simp only [if_pos hlt, if_pos a]; omega
      · have a : ¬ i < n + 1 := by omega
        simp only [if_neg hlt, if_neg a]; omega

theorem cnt_le (f : Nat → Bool) : ∀ n, cnt f n ≤ n
  | 0 => Nat.le_refl _
  | n + 1 => by
    simp only [cnt]
    have := cnt_le f n
    split <;> omega

end Go.Ab
