/- A region that draws its order: positions, snapshots, slots. -/
import Derived.Test.YtleafkdgnlngmaaGreatDoorAbDraw1
namespace Go.Ab
open Go

structure Run (P : Program) (X : Ext) (call : Caller) (ops : List Oper) (pre : List Nat) (base : Nat) (ord : List Nat) (st : Nat → DS) : Prop where
  step : ∀ p i, ord[p]? = some i → ∃ o pi v w, StepF P X call ops pre base i (st p) (st (p + 1)) o pi v w
  d0 : (st 0).done = 0
  e0 : (st 0).ended = []
  h0 : (st 0).h = (st 0).cur
  f : (st ord.length).effs = []
  all : ∀ i, i < ops.length → Nat.testBit (st ord.length).done i = true
  uniq : ∀ (i j : Nat) (oi oj : Oper) (t : Nat), ops[i]? = some oi → ops[j]? = some oj → oi.dst = some t → oj.dst = some t → i = j

variable {P : Program} {X : Ext} {call : Caller} {ops : List Oper} {pre : List Nat} {base : Nat} {ord : List Nat} {st : Nat → DS}

def rk (st : Nat → DS) (p : Nat) : Nat := (st p).ended.length

/-- those that ended, the first one first -/
def lst (ord : List Nat) (st : Nat → DS) : List (Nat × H) := (st ord.length).ended.reverse

def snapC (ord : List Nat) (st : Nat → DS) (c : Nat) : H := match (lst ord st)[c]? with | some q => q.2 | none => (st ord.length).cur

theorem getpos {l : List Nat} {p : Nat} (h : p < l.length) : ∃ i, l[p]? = some i := ⟨l[p], List.getElem?_eq_getElem h⟩

theorem lt_of_get {α : Type} {l : List α} {p : Nat} {i : α} (h : l[p]? = some i) : p < l.length := by
  rcases Nat.lt_or_ge p l.length with hh | hh
  · exact hh
  · rw [List.getElem?_eq_none hh] at h; cases h

theorem Run.done_iff (R : Run P X call ops pre base ord st) : ∀ p, p ≤ ord.length → ∀ j, Nat.testBit (st p).done j = true ↔ ∃ q, q < p ∧ ord[q]? = some j
  | 0, _, j => by rw [R.d0]; simp
  | p + 1, hp, j => by
    obtain ⟨i, hi⟩ := getpos (l := ord) (p := p) (by omega)
    obtain ⟨o, pi, v, w, F⟩ := R.step p i hi
    rw [F.done, Nat.testBit_or, Bool.or_eq_true, R.done_iff p (by omega) j, Nat.testBit_two_pow, decide_eq_true_iff]
    constructor
    · rintro (⟨q, hq, e⟩ | rfl)
      · exact ⟨q, by omega, e⟩
      · exact ⟨p, by omega, hi⟩
    · rintro ⟨q, hq, e⟩
      by_cases h : q = p
      · subst h; rw [hi] at e; cases e; exact .inr rfl
      · exact .inl ⟨q, by omega, e⟩

theorem Run.nodup (R : Run P X call ops pre base ord st) {p q i : Nat} (hp : ord[p]? = some i) (hq : ord[q]? = some i) : p = q := by
  have key : ∀ {p q : Nat}, ord[p]? = some i → ord[q]? = some i → ¬ p < q := by
    intro p q hp hq hlt
    obtain ⟨o, pi, v, w, F⟩ := R.step q i hq
    have := (R.done_iff q (Nat.le_of_lt (lt_of_get hq)) i).2 ⟨p, hlt, hp⟩
    rw [F.new] at this; cases this
  have h1 := key hp hq
  have h2 := key hq hp
  omega

theorem Run.pos (R : Run P X call ops pre base ord st) {i : Nat} (hi : i < ops.length) : ∃ p : Nat, ord[p]? = some i := by
  obtain ⟨q, _, e⟩ := (R.done_iff ord.length (Nat.le_refl _) i).1 (R.all i hi)
  exact ⟨q, e⟩

/-- from one place to a later one: what ended stays -/
theorem Run.grow (R : Run P X call ops pre base ord st) (p : Nat) : ∀ q, p ≤ q → q ≤ ord.length → ∃ l, (st q).ended = l ++ (st p).ended
  | 0, h, _ => by have : p = 0 := by omega
                  subst this; exact ⟨[], rfl⟩
  | q + 1, h, hq => by
    by_cases e : p = q + 1
    · subst e; exact ⟨[], rfl⟩
    · obtain ⟨l, hl⟩ := R.grow p q (by omega) (by omega)
      obtain ⟨i, hi⟩ := getpos (l := ord) (p := q) (by omega)
      obtain ⟨o, pi, v, w, F⟩ := R.step q i hi
      rcases F.kind with ⟨_, _, _, h1, _⟩ | ⟨_, _, h1, _⟩
      · exact ⟨(i, (st q).cur) :: l, by rw [h1, hl]; rfl⟩
      · exact ⟨l, by rw [h1, hl]⟩

theorem Run.rk_mono (R : Run P X call ops pre base ord st) {p q : Nat} (h : p ≤ q) (hq : q ≤ ord.length) : rk st p ≤ rk st q := by
  obtain ⟨l, hl⟩ := R.grow p q h hq
  unfold rk; rw [hl, List.length_append]; omega

theorem Run.lst_eq (R : Run P X call ops pre base ord st) {p : Nat} (hp : p ≤ ord.length) : ∃ l, lst ord st = (st p).ended.reverse ++ l := by
  obtain ⟨l, hl⟩ := R.grow p ord.length hp (Nat.le_refl _)
  exact ⟨l.reverse, by unfold lst; rw [hl, List.reverse_append]⟩

theorem Run.lst_get (R : Run P X call ops pre base ord st) {p c : Nat} (hp : p ≤ ord.length) (hc : c < rk st p) : (lst ord st)[c]? = (st p).ended.reverse[c]? := by
  obtain ⟨l, hl⟩ := R.lst_eq hp
  rw [hl, List.getElem?_append_left (by rw [List.length_reverse]; exact hc)]

theorem Run.lst_mem (R : Run P X call ops pre base ord st) {p c : Nat} {q : Nat × H} (hp : p ≤ ord.length) (hc : c < rk st p) (hq : (lst ord st)[c]? = some q) : q ∈ (st p).ended := by
  rw [R.lst_get hp hc] at hq
  exact List.mem_reverse.1 (List.mem_of_getElem? hq)

theorem Run.rk_eff {p i : Nat} {o : Oper} {pi : Nat} {v : AV} {w : Bool} (F : StepF P X call ops pre base i (st p) (st (p + 1)) o pi v w) (hk : kindOf P o.op = 2) : rk st (p + 1) = rk st p + 1 := by
  rcases F.kind with ⟨_, _, _, h1, _⟩ | ⟨h, _⟩
  · unfold rk; rw [h1]; rfl
  · exact absurd hk h

theorem Run.rk_non {p i : Nat} {o : Oper} {pi : Nat} {v : AV} {w : Bool} (F : StepF P X call ops pre base i (st p) (st (p + 1)) o pi v w) (hk : kindOf P o.op ≠ 2) : rk st (p + 1) = rk st p := by
  rcases F.kind with ⟨h, _⟩ | ⟨_, _, h1, _⟩
  · exact absurd h hk
  · unfold rk; rw [h1]

theorem Run.lst_eff (R : Run P X call ops pre base ord st) {p i : Nat} {o : Oper} {pi : Nat} {v : AV} {w : Bool} (hp : ord[p]? = some i) (F : StepF P X call ops pre base i (st p) (st (p + 1)) o pi v w) (hk : kindOf P o.op = 2) :
    (lst ord st)[rk st p]? = some (i, (st p).cur) := by
  have hlt := lt_of_get hp
  rw [R.lst_get (p := p + 1) (by omega) (by rw [Run.rk_eff F hk]; omega)]
  rcases F.kind with ⟨_, _, _, h1, _⟩ | ⟨h, _⟩
  · rw [h1, List.reverse_cons, List.getElem?_append_right (by rw [List.length_reverse]; exact Nat.le_refl _)]
    rw [List.length_reverse]
    show [(i, (st p).cur)][(st p).ended.length - (st p).ended.length]? = _
    rw [Nat.sub_self]; rfl
  · exact absurd hk h

/-- each that ended, did so at a place -/
theorem Run.lst_at (R : Run P X call ops pre base ord st) : ∀ p, p ≤ ord.length → ∀ (c : Nat) (k : Nat) (s : H), (st p).ended.reverse[c]? = some (k, s) →
    ∃ q o pi v w, q < p ∧ ord[q]? = some k ∧ rk st q = c ∧ (st q).cur = s ∧ kindOf P o.op = 2 ∧ StepF P X call ops pre base k (st q) (st (q + 1)) o pi v w
  | 0, _, c, k, s, h => by rw [R.e0] at h; simp at h
  | p + 1, hp, c, k, s, h => by
    obtain ⟨i, hi⟩ := getpos (l := ord) (p := p) (by omega)
    obtain ⟨o, pi, v, w, F⟩ := R.step p i hi
    have old : (st p).ended.reverse[c]? = some (k, s) → ∃ q o pi v w, q < p + 1 ∧ ord[q]? = some k ∧ rk st q = c ∧ (st q).cur = s ∧ kindOf P o.op = 2 ∧ StepF P X call ops pre base k (st q) (st (q + 1)) o pi v w := by
      intro h'
      obtain ⟨q, o, pi, v, w, h1, h2⟩ := R.lst_at p (by omega) c k s h'
      exact ⟨q, o, pi, v, w, by omega, h2⟩
    rcases F.kind with ⟨hk, _, _, h1, _⟩ | ⟨_, _, h1, _⟩
    · rw [h1, List.reverse_cons] at h
      by_cases hc : c < (st p).ended.length
      · rw [List.getElem?_append_left (by rw [List.length_reverse]; exact hc)] at h
        exact old h
      · rw [List.getElem?_append_right (by rw [List.length_reverse]; omega), List.length_reverse] at h
        have : c - (st p).ended.length = 0 := by
          have := lt_of_get h
          simp at this; omega
        rw [this] at h
        simp only [List.getElem?_cons_zero, Option.some.injEq, Prod.mk.injEq] at h
        obtain ⟨rfl, rfl⟩ := h
        exact ⟨p, o, pi, v, w, by omega, hi, by unfold rk; omega, rfl, hk, F⟩
    · rw [h1] at h; exact old h

theorem Run.snap_of (R : Run P X call ops pre base ord st) : ∀ d p, p + d = ord.length → (st p).cur = snapC ord st (rk st p)
  | 0, p, hp => by
    have : p = ord.length := by omega
    subst this
    unfold snapC
    have : (lst ord st)[rk st ord.length]? = none := by
      apply List.getElem?_eq_none
      unfold lst rk; rw [List.length_reverse]; exact Nat.le_refl _
    rw [this]
  | d + 1, p, hp => by
    obtain ⟨i, hi⟩ := getpos (l := ord) (p := p) (by omega)
    obtain ⟨o, pi, v, w, F⟩ := R.step p i hi
    by_cases hk : kindOf P o.op = 2
    · unfold snapC
      rw [R.lst_eff hi F hk]
    · rw [← Run.rk_non F hk, ← R.snap_of d (p + 1) (by omega)]
      rcases F.kind with ⟨h, _⟩ | ⟨_, _, _, h1, _⟩
      · exact absurd h hk
      · exact h1.symm

theorem Run.snap (R : Run P X call ops pre base ord st) {p : Nat} (hp : p ≤ ord.length) : (st p).cur = snapC ord st (rk st p) := R.snap_of (ord.length - p) p (by omega)

theorem Run.effs_of (R : Run P X call ops pre base ord st) : ∀ d p, p + d = ord.length → (st p).effs = ((lst ord st).drop (rk st p)).map (·.1)
  | 0, p, hp => by
    have : p = ord.length := by omega
    subst this
    rw [R.f, List.drop_eq_nil_of_le (by unfold lst rk; rw [List.length_reverse]; exact Nat.le_refl _)]; rfl
  | d + 1, p, hp => by
    obtain ⟨i, hi⟩ := getpos (l := ord) (p := p) (by omega)
    obtain ⟨o, pi, v, w, F⟩ := R.step p i hi
    have ih := R.effs_of d (p + 1) (by omega)
    by_cases hk : kindOf P o.op = 2
    · rw [Run.rk_eff F hk] at ih
      have hl := R.lst_eff hi F hk
      have hd : (lst ord st).drop (rk st p) = (i, (st p).cur) :: (lst ord st).drop (rk st p + 1) := by
        rw [List.drop_eq_getElem_cons (lt_of_get hl)]
        congr 1
        rw [List.getElem?_eq_getElem (lt_of_get hl)] at hl
        simpa using hl
      rw [hd, List.map_cons, ← ih]
      rcases F.kind with ⟨_, h1, _⟩ | ⟨h, _⟩
      · exact h1
      · exact absurd hk h
    · rw [Run.rk_non F hk] at ih
      rw [← ih]
      rcases F.kind with ⟨h, _⟩ | ⟨_, h1, _⟩
      · exact absurd h hk
      · exact h1.symm

/-- the next one that writes asks for all that comes ahead of it here -/
theorem Run.need (R : Run P X call ops pre base ord st) {p i : Nat} {o : Oper} {pi : Nat} {v : AV} {w : Bool} (hp : ord[p]? = some i) (F : StepF P X call ops pre base i (st p) (st (p + 1)) o pi v w) (hk : kindOf P o.op ≠ 2)
    {q : Nat × H} (hq : (lst ord st)[rk st p]? = some q) : ∃ pk, pre[q.1]? = some pk ∧ Nat.testBit pk i = true := by
  have hlt := lt_of_get hp
  have he := R.effs_of (ord.length - p) p (by omega)
  rcases F.kind with ⟨h, _⟩ | ⟨_, _, _, _, hn, _⟩
  · exact absurd h hk
  · have hd : (lst ord st).drop (rk st p) = q :: (lst ord st).drop (rk st p + 1) := by
      rw [List.drop_eq_getElem_cons (lt_of_get hq)]
      congr 1
      rw [List.getElem?_eq_getElem (lt_of_get hq)] at hq
      simpa using hq
    rw [hd, List.map_cons] at he
    rw [he] at hn
    have hn' : Nat.testBit ((nth pre q.1).getD 0) i = true := hn
    rw [nth_eq] at hn'
    cases hpk : pre[q.1]? with
    | none => rw [hpk] at hn'; simp at hn'
    | some pk => rw [hpk] at hn'; exact ⟨pk, rfl, hn'⟩

/-! blocks -/
def MkAt (P : Program) (ops : List Oper) (base : Nat) (ord : List Nat) (st : Nat → DS) (p i : Nat) (obj : AObj) : Prop :=
  ord[p]? = some i ∧ ∃ o, ops[i]? = some o ∧ kindOf P o.op = 1 ∧ wantedA ops (st p).ρ o.guard = some true ∧ (st (p + 1)).h.get (base + i) = some obj

theorem H.get_back (n b : Nat) (h : H) : (backNext n h).get b = h.get b := rfl
theorem H.next_back (n : Nat) (h : H) : (backNext n h).next = n := rfl

/-- what a step does to the heap -/
theorem Run.heap_step {p i : Nat} {o : Oper} {pi : Nat} {v : AV} {w : Bool} (hp : ord[p]? = some i) (F : StepF P X call ops pre base i (st p) (st (p + 1)) o pi v w) (hk : kindOf P o.op ≠ 2) :
    (st (p + 1)).h.next = (st p).h.next ∧ (((∀ obj, ¬ MkAt P ops base ord st p i obj) ∧ (st (p + 1)).h = (st p).h) ∨ ∃ obj, MkAt P ops base ord st p i obj ∧ ∀ b, (st (p + 1)).h.get b = if base + i = b then some obj else (st p).h.get b) := by
  have nomk : (w = false ∨ kindOf P o.op = 0) → ∀ obj, ¬ MkAt P ops base ord st p i obj := by
    rintro h obj ⟨_, o', ho', hk', hw', _⟩
    rw [F.op] at ho'; cases ho'
    rcases h with rfl | h
    · rw [F.want] at hw'; cases hw'
    · rw [h] at hk'; cases hk'
  rcases F.kind with ⟨h, _⟩ | ⟨_, _, _, _, _, h⟩
  · exact absurd h hk
  · rcases h with ⟨hw, _, h1⟩ | ⟨rfl, h1, h', he, hh⟩ | ⟨_, h0, h1, _⟩
    · rw [h1]; exact ⟨rfl, .inl ⟨nomk (.inl hw), rfl⟩⟩
    · obtain ⟨obj, rfl⟩ := maker_shape h1 he
      have hg : ∀ b, (st (p + 1)).h.get b = if base + i = b then some obj else (st p).h.get b := by
        intro b
        rw [hh, H.get_back, H.get_new, H.next_back, H.get_back]
      refine ⟨by rw [hh]; rfl, .inr ⟨obj, ⟨hp, o, F.op, h1, F.want, ?_⟩, hg⟩⟩
      rw [hg, if_pos rfl]
    · rw [h1]; exact ⟨rfl, .inl ⟨nomk (.inr h0), rfl⟩⟩

theorem Run.eff_h {p i : Nat} {o : Oper} {pi : Nat} {v : AV} {w : Bool} (F : StepF P X call ops pre base i (st p) (st (p + 1)) o pi v w) (hk : kindOf P o.op = 2) : (st (p + 1)).cur = (st (p + 1)).h := by
  rcases F.kind with ⟨_, _, _, _, h1, _⟩ | ⟨h, _⟩
  · exact h1
  · exact absurd hk h

theorem Run.heap (R : Run P X call ops pre base ord st) : ∀ p, p ≤ ord.length → (st p).h.next = (snapC ord st (rk st p)).next ∧
    (∀ b, (∀ q i obj, q < p → rk st q = rk st p → MkAt P ops base ord st q i obj → b ≠ base + i) → (st p).h.get b = (snapC ord st (rk st p)).get b) ∧
    (∀ q i obj, q < p → rk st q = rk st p → MkAt P ops base ord st q i obj → (st p).h.get (base + i) = some obj)
  | 0, h => by
    rw [R.h0, R.snap h]
    exact ⟨rfl, fun _ _ => rfl, fun q _ _ hq => by omega⟩
  | p + 1, h => by
    obtain ⟨i, hi⟩ := getpos (l := ord) (p := p) (by omega)
    obtain ⟨o, pi, v, w, F⟩ := R.step p i hi
    by_cases hk : kindOf P o.op = 2
    · have e := Run.rk_eff F hk
      rw [← Run.eff_h F hk, R.snap h]
      refine ⟨rfl, fun _ _ => rfl, fun q _ _ hq hr => ?_⟩
      have := R.rk_mono (p := q) (q := p) (by omega) (by omega)
      omega
    · obtain ⟨g1, g2, g3⟩ := R.heap p (by omega)
      have e := Run.rk_non F hk
      obtain ⟨k1, k2⟩ := Run.heap_step hi F hk
      rw [e]
      refine ⟨k1.trans g1, fun b hb => ?_, fun q j obj hq hr hm => ?_⟩
      · rcases k2 with ⟨k2, k3⟩ | ⟨obj, k2, k3⟩
        · rw [k3]; exact g2 b fun q j obj hq hr hm => hb q j obj (by omega) hr hm
        · rw [k3, if_neg (fun e' => hb p i obj (by omega) rfl k2 e'.symm)]
          exact g2 b fun q j obj hq hr hm => hb q j obj (by omega) hr hm
      · by_cases hqp : q = p
        · subst hqp
          obtain ⟨_, _, _, _, _, hget⟩ := hm
          exact hget
        · have hold := g3 q j obj (by omega) hr hm
          rcases k2 with ⟨k2, k3⟩ | ⟨obj', k2, k3⟩
          · rw [k3]; exact hold
          · have hne : base + i ≠ base + j := by
              intro e'
              have : i = j := by omega
              subst this
              exact hqp (R.nodup hm.1 hi)
            rw [k3, if_neg hne]; exact hold

/-! slots -/
def Writes (ops : List Oper) (i t : Nat) : Prop := ∃ o, ops[i]? = some o ∧ o.dst = some t

theorem put_tget {ρ ρ' : Fm} {dst : Option Tmp} {v : AV} (h : putT ρ dst v = some ρ') (t : Nat) : ρ'.n = ρ.n ∧ (dst ≠ some t → tget ρ' t = tget ρ t) ∧ (dst = some t → tget ρ' t = some v) := by
  cases dst with
  | none =>
    have h' : some ρ = some ρ' := h
    cases h'
    exact ⟨rfl, fun _ => rfl, fun e => by cases e⟩
  | some d =>
    obtain ⟨n, tr⟩ := ρ
    have h' : bc (Nat.blt d n) (some (⟨n, Tr.set tr d (some v)⟩ : Fm)) none = some ρ' := h
    rw [bc_none, Option.some.injEq] at h'
    obtain ⟨_, rfl⟩ := h'
    refine ⟨rfl, fun e => ?_, fun e => ?_⟩
    · show (Tr.set tr d (some v)).get t = tr.get t
      rw [Tr.get_set, if_neg (fun e' => e (by rw [e']))]
    · simp only [Option.some.injEq] at e
      subst e
      show (Tr.set tr d (some v)).get d = some v
      rw [Tr.get_set, if_pos rfl]

theorem Run.slot_n (R : Run P X call ops pre base ord st) : ∀ p, p ≤ ord.length → (st p).ρ.n = (st 0).ρ.n
  | 0, _ => rfl
  | p + 1, h => by
    obtain ⟨i, hi⟩ := getpos (l := ord) (p := p) (by omega)
    obtain ⟨o, pi, v, w, F⟩ := R.step p i hi
    rw [(put_tget F.put 0).1]; exact R.slot_n p (by omega)

theorem Run.slot_no (R : Run P X call ops pre base ord st) (t : Nat) : ∀ p, p ≤ ord.length → (∀ q i, q < p → ord[q]? = some i → ¬ Writes ops i t) → tget (st p).ρ t = tget (st 0).ρ t
  | 0, _, _ => rfl
  | p + 1, h, hn => by
    obtain ⟨i, hi⟩ := getpos (l := ord) (p := p) (by omega)
    obtain ⟨o, pi, v, w, F⟩ := R.step p i hi
    rw [(put_tget F.put t).2.1 (fun e => hn p i (by omega) hi ⟨o, F.op, e⟩)]
    exact R.slot_no t p (by omega) fun q j hq => hn q j (by omega)

theorem Run.slot_yes (R : Run P X call ops pre base ord st) {t q i : Nat} (hq : ord[q]? = some i) (hw : Writes ops i t) : ∀ p, q < p → p ≤ ord.length → tget (st p).ρ t = tget (st (q + 1)).ρ t
  | 0, h, _ => by omega
  | p + 1, h, hp => by
    by_cases e : q = p
    · subst e; rfl
    · obtain ⟨j, hj⟩ := getpos (l := ord) (p := p) (by omega)
      obtain ⟨o, pi, v, w, F⟩ := R.step p j hj
      rw [(put_tget F.put t).2.1 (fun e' => ?_)]
      · exact R.slot_yes hq hw p (by omega) (by omega)
      · obtain ⟨o', ho', hd'⟩ := hw
        have := R.uniq i j o' o t ho' F.op hd' e'
        subst this
        exact e (R.nodup hq hj)

theorem Run.slot_val (R : Run P X call ops pre base ord st) {t p i : Nat} {o : Oper} {pi : Nat} {v : AV} {w : Bool} (hp : ord[p]? = some i) (F : StepF P X call ops pre base i (st p) (st (p + 1)) o pi v w) (hd : o.dst = some t) :
    tget (st ord.length).ρ t = some v := by
  have hlt := lt_of_get hp
  rw [R.slot_yes hp ⟨o, F.op, hd⟩ ord.length hlt (Nat.le_refl _)]
  exact (put_tget F.put t).2.2 hd

end Go.Ab
