/- Each operation of the evaluator stands for the model's: conversions, the built-in functions. -/
import Derived.Test.YtleafkdgnlngmaaGreatDoorAbOps6
import Derived.Laws.BytesString
import Derived.Laws.Append
set_option linter.unusedVariables false
set_option linter.unusedSimpArgs false
namespace Go.Ab
open Go
variable [Th]
variable {P : Program} {X : Ext} {η : Operand → Value} {ε : Env} {o : Oper} {β : Bet} {h : H} {w : World} {r : R}

/-! bytes and texts -/
omit [Th] in
theorem asByte_eq {v : AV} {b : UInt8} (hh : asByte v = some b) : v = .int .u8 (b.toNat : Int) := by
  cases v <;> simp only [asByte, reduceCtorEq, bc_none] at hh
  obtain ⟨h1, h2⟩ := hh
  have := kEq_t.1 h1
  subst this
  rename_i n
  cases n with
  | negSucc m => cases h2
  | ofNat m =>
    simp only [bc_none, Option.some.injEq] at h2
    obtain ⟨h3, rfl⟩ := h2
    have := blt_t.1 h3
    congr 1
    simp [Nat.mod_eq_of_lt this]

omit [Th] in
theorem toBytes_eq : ∀ {l : List AV} {bs : List UInt8}, toBytes l = some bs → l = bs.map fun b => .int .u8 (b.toNat : Int)
  | [], bs, hh => by simp only [toBytes, Option.some.injEq] at hh; subst hh; rfl
  | v :: l, bs, hh => by
    have h' : ob (asByte v) (fun b => ob (toBytes l) fun r => some (b :: r)) = some bs := hh
    simp only [ob_eq, Option.some.injEq] at h'
    obtain ⟨b, hb, r, hr, rfl⟩ := h'
    rw [asByte_eq hb, toBytes_eq hr]; rfl

theorem VRs_bytes {bs : List UInt8} : ∀ {vs : List Value}, VRs β (bs.map fun b => AV.int .u8 (b.toNat : Int)) vs → vs = bs.map fun b => Value.int .u8 (b.toNat : Int) := by
  induction bs with
  | nil => intro vs hh; exact hh
  | cons b bs ih =>
    intro vs hh
    simp only [List.map_cons, VRs] at hh
    obtain ⟨v, vs', rfl, h1, h2⟩ := hh
    rw [ih h2, h1.int]; rfl

omit [Th] in
theorem byteCells_eq : ∀ (s : List UInt8), byteCells s = s.map fun b => AV.int .u8 (b.toNat : Int)
  | [] => rfl
  | b :: s => by show AV.int .u8 (Int.ofNat b.toNat) :: byteCells s = _; rw [byteCells_eq s]; rfl

theorem VRs_of_bytes (bs : List UInt8) : VRs β (bs.map fun b => AV.int .u8 (b.toNat : Int)) (bs.map fun b => Value.int .u8 (b.toNat : Int)) := by
  induction bs with
  | nil => rfl
  | cons b bs ih => simp only [List.map_cons, VRs]; exact ⟨_, _, rfl, rfl, ih⟩

omit [Th] in
theorem foldl_push (bs : List UInt8) : ∀ (s : ByteArray), ((bs.map fun b => ((b.toNat : Nat) : Int)).foldl (fun r n => r.push (UInt8.ofNat n.toNat)) s) = ⟨⟨s.data.toList ++ bs⟩⟩ := by
  induction bs with
  | nil => intro s; simp
  | cons b bs ih =>
    intro s
    simp only [List.map_cons, List.foldl_cons]
    rw [ih]
    congr 2
    have : UInt8.ofNat ((b.toNat : Int).toNat) = b := by simp
    rw [this]
    show (s.data.push b).toList ++ bs = _
    simp

theorem bytesOf_ok (s : Sim β h w) {x : AV} {bs : List UInt8} (hb : bytesOf h x = some bs) {v : Value} (hv : VR β x v) : (Conv.bytesToString v).run P w = .ok (.string ⟨⟨bs⟩⟩) w := by
  cases x <;> simp only [bytesOf, reduceCtorEq, Option.some.injEq, bc_none, ob_eq] at hb
  · have e1 : v = .slice none 0 0 := hv
    subst e1; subst hb; rfl
  · obtain ⟨h1, l, hl, hb⟩ := hb
    have := beq_t.1 h1
    subst this
    obtain ⟨cb, base, sz, cc, hβ, e1, _⟩ := hv.sl
    obtain ⟨us, g1, g2, _, g3⟩ := s.cellsAt hl hβ
    rw [toBytes_eq hb] at g2
    have g2' := VRs_bytes g2
    subst e1
    have hr := run_loadCells_list (P := P) w ⟨cb, base + _, none⟩ us (fun j u hj => by rw [Addr_add]; exact g3 j u hj)
    rw [g1, g2'] at hr
    rw [run_bytesToString (ns := bs.map fun b => ((b.toNat : Nat) : Int)) (h := by rw [hr]; simp [List.map_map, Function.comp_def])]
    rw [foldl_push]
    rfl
  · simp only [VR] at hv
    obtain ⟨a, c, e1⟩ := hv
    subst e1; subst hb
    simp [Conv.bytesToString, Go.loadCells, Go.loadCellsFrom]; rfl

omit [Th] in
theorem isByteD_eq {d : TypeDesc} (hh : isByteD d = true) : d = .int .u8 := by
  cases d <;> simp [isByteD] at hh
  rename_i k
  cases k <;> simp at hh
  rfl

omit [Th] in
theorem shape_ok (w : World) (o : Obj) (c : Array Value) (e : TypeId) (fr : Nat × Nat) (ho : o = .cells c e fr) : (w.alloc o).shape? w.heap.size = some (e, c.size) := by
  subst ho
  have : (w.alloc (.cells c e fr)).heap[w.heap.size]? = some (.cells c e fr) := by show (w.heap.push _)[w.heap.size]? = _; simp
  unfold World.shape?
  rw [this]

omit [Th] in
theorem modify_push (hp : Array Obj) (x y : Obj) (f : Obj → Obj) (hf : f x = y) : (hp.push x).modify hp.size f = hp.push y := by
  apply Array.ext_getElem?
  intro i
  rw [Array.getElem?_modify, Array.getElem?_push, Array.getElem?_push]
  by_cases hi : i = hp.size
  · subst hi; simp [hf]
  · rw [if_neg (fun e => hi e.symm), if_neg hi, if_neg hi]

omit [Th] in
theorem freeze_alloc (w : World) (c : Array Value) (e : TypeId) (n : Nat) : (w.alloc (.cells c e)).freeze ⟨w.heap.size, n, none⟩ 1 = w.alloc (.cells c e (n, n + 1)) := by
  unfold World.freeze
  rw [if_neg (by decide)]
  show ({ w with heap := (w.heap.push (.cells c e)).modify w.heap.size _ } : World) = { w with heap := w.heap.push (.cells c e (n, n + 1)) }
  rw [modify_push]
  rfl

theorem op_convert {sT dT : TypeId} {x : Operand} (ho : o.op = .convert sT dT x) (hX : XOk P X) (s : Sim β h w) (hε : ∀ x v, ε x = some v → VR β v (η x)) (he : e_convert sT dT x P X ε h = some r) : OpOk P η o β h w r := by
  simp only [e_convert, ob_eq] at he
  obtain ⟨sd, hs, dd, hd, a, hx, he⟩ := he
  have hu := hε _ _ hx
  have he0 := orE_eq.1 he
  clear he
  rcases he0 with he | ⟨_, he⟩
  rotate_left
  · simp only [ob_eq, retV, Option.some.injEq] at he
    obtain ⟨v, hv, rfl⟩ := he
    obtain ⟨cv, h1, h2⟩ := hX.cv _ _ _ _ _ _ hs hd hv β _ hu
    exact .plain s (h2 o η x w ho rfl) h1
  unfold convD at he
  cases dd <;> simp only [reduceCtorEq] at he
  · -- to a number
    rename_i k
    simp only [bc_none, convInt, ob_eq, retV, Option.some.injEq] at he
    obtain ⟨h1, n, hn, rfl⟩ := he
    obtain ⟨k', rfl⟩ := asInt_eq hn
    have e1 := hu.int
    refine .plain s (cv := .int k (k.wrap n)) ?_ (by rw [wrapK_eq]; rfl)
    cases sd <;> simp [isIntD] at h1
    simp [execOp, ho, convert, run_underlying hs, run_underlying hd, e1, Conv.intToInt]
  · -- to a text
    cases sd <;> simp only [reduceCtorEq, toStr, ob_eq, bc_none, retV, Option.some.injEq] at he
    · obtain ⟨q, hq, rfl⟩ := he
      have := asStr_eq hq
      subst this
      have e1 := hu.str
      refine .plain s (cv := .string ⟨⟨q⟩⟩) ?_ rfl
      simp [execOp, ho, convert, run_underlying hs, run_underlying hd, e1]
    · rename_i e
      obtain ⟨d2, hd2, h1, q, hq, rfl⟩ := he
      have := isByteD_eq h1
      subst this
      refine .plain s (cv := .string ⟨⟨q⟩⟩) ?_ rfl
      have hb := bytesOf_ok (P := P) s hq hu
      have hsl : ∃ p n m, η x = .slice p n m := by
        cases a <;> simp only [bytesOf, reduceCtorEq] at hq
        · exact ⟨_, _, _, hu⟩
        · obtain ⟨_, _, _, _, _, e1, _⟩ := hu.sl; exact ⟨_, _, _, e1⟩
        · obtain ⟨_, _, e1⟩ := hu; exact ⟨_, _, _, e1⟩
      obtain ⟨p, n, m, e1⟩ := hsl
      rw [e1] at hb
      simp [execOp, ho, convert, run_underlying hs, run_underlying hd, e1, run_underlying hd2, hb]
  · -- to bytes
    rename_i e
    cases sd <;> simp only [reduceCtorEq, fromStr, ob_eq, bc_none, Option.some.injEq] at he
    obtain ⟨d2, hd2, h1, q, hq, hle, rfl⟩ := he
    have := isByteD_eq h1
    subst this
    have := asStr_eq hq
    subst this
    have e1 := hu.str
    have hle' : q.length ≤ 1099511627776 := ble_t.1 hle
    have hsz : (⟨⟨q⟩⟩ : ByteArray).size = q.length := rfl
    generalize hcap : (Question.appendCap q.length 0 e).cut (w.tape w.drawn (.appendCap q.length 0 e)) = cap
    have hcap' : q.length ≤ cap := by rw [← hcap]; simp [Question.cut]
    let ccs : Array Value := (q.map fun b => Value.int .u8 (b.toNat : Int)).toArray
    let rest : Array Value := Array.replicate (cap - q.length) (.int .u8 0)
    have hcs : ccs.size = q.length := by simp [ccs]
    have hall : (ccs ++ rest).size = cap := by simp [ccs, rest]; omega
    obtain ⟨m1, m2⟩ := s.drew.make (.cells (byteCells q) false) (.cells (ccs ++ rest) e (cap, cap + 1)) 0 cap (fun β' w' hb hn hw =>
      ⟨_, 0, cap, ccs ++ rest, e, (cap, cap + 1), hn, hw, hall, by simp; omega, by simp, by rw [byteCells_eq]; simp; exact hcap', fun j v hj => by
        rw [byteCells_eq] at hj
        obtain ⟨u, g1, g2⟩ := (VRs_of_bytes (β := β') q).at hj
        refine ⟨u, ?_, g2⟩
        rw [Nat.zero_add, Array.getElem?_append, if_pos ?_]
        · simp only [ccs]; rw [List.getElem?_toArray]; exact g1
        · rw [hcs]
          rcases Nat.lt_or_ge j q.length with hh | hh
          · exact hh
          · rw [List.getElem?_eq_none (by simpa using hh)] at g1; cases g1⟩)
    refine ⟨_, _, m1, (Kept.drew β h w).trans m2, .inl ⟨.slice (some ⟨w.heap.size, 0, none⟩) q.length cap, ?_, ?_⟩⟩
    · simp only [execOp, ho, convert, run_underlying hs, run_underlying hd, e1, Sem.run_bind, Result.andThen_ok, run_underlying hd2, Conv.stringToBytes, run_choose, Question.forced, Bool.false_eq_true, if_false, hsz, hcap, newRow, run_newObj, Sem.run_pure, World.alloc_eq, World.drew_eq, markStringish, run_shape]
      have hel : (q.toArray.map fun (b : UInt8) => Value.int .u8 (b.toNat : Int)) = ccs := by simp [ccs]
      have e4 : (ByteArray.data ⟨⟨q⟩⟩).map (fun (b : UInt8) => Value.int .u8 (b.toNat : Int)) = ccs := hel
      rw [e4]
      rw [shape_ok w.drew _ _ _ _ rfl]
      simp only [run_freeze, Result.andThen_ok, Sem.run_pure]
      congr 1
      rw [hall]
      exact freeze_alloc w.drew (ccs ++ rest) e cap
    · simp only [VR]
      exact ⟨_, _, _, cap, Bet.put_same .., rfl, Nat.le_refl _, hcap', fun e => (by cases e), by omega⟩

end Go.Ab
