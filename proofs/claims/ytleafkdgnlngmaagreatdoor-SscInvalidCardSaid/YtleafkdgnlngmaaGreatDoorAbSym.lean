/- Words and equations by which a region is followed with values that are not written out. -/
import Derived.Test.YtleafkdgnlngmaaGreatDoorAbWp
import Derived.KernelRfl
namespace Go.Ab
open Go

/-- a frame, written as a list -/
noncomputable def fm (n : Nat) (l : List (Nat × AV)) : Fm := ⟨n, l.foldr (fun p t => Tr.set t p.1 (some p.2)) .e⟩

theorem fm_n (n : Nat) (l : List (Nat × AV)) : Fm.n (fm n l) = n := rfl
theorem tget_nil (n t : Nat) : tget (fm n []) t = none := Tr.get_e t
theorem tget_cons (n t : Nat) (p : Nat × AV) (l : List (Nat × AV)) : tget (fm n (p :: l)) t = if p.1 = t then some p.2 else tget (fm n l) t := Tr.get_set _ _ _ _
theorem tget_hit (n t : Nat) (v : AV) (l : List (Nat × AV)) : tget (fm n ((t, v) :: l)) t = some v := by rw [tget_cons, if_pos rfl]
theorem tget_miss {n t d : Nat} {v : AV} {l : List (Nat × AV)} (h : d ≠ t) : tget (fm n ((d, v) :: l)) t = tget (fm n l) t := by rw [tget_cons, if_neg h]
theorem fput_fm {n d : Nat} {v : AV} {l : List (Nat × AV)} (h : d < n) : fput (fm n l) d v = some (fm n ((d, v) :: l)) := by
  show bc (Nat.blt d n) _ none = _
  rw [blt_t.2 h]; rfl
theorem putT_some {ρ : Fm} {d : Nat} {v : AV} : putT ρ (some d) v = fput ρ d v := rfl
theorem putT_none {ρ : Fm} {v : AV} : putT ρ none v = some ρ := rfl

theorem FSub.fm {n : Nat} {l : List (Nat × AV)} {ρ : Fm} (hn : Fm.n ρ = n) (hl : ∀ p ∈ l, tget ρ p.1 = some p.2) : FSub (fm n l) ρ := by
  refine ⟨hn.symm, fun t v ht => ?_⟩
  induction l with
  | nil => rw [tget_nil] at ht; cases ht
  | cons p l ih =>
    rw [tget_cons] at ht
    by_cases hp : p.1 = t
    · rw [if_pos hp] at ht; cases ht; rw [← hp]; exact hl p (List.mem_cons_self ..)
    · rw [if_neg hp] at ht; exact ih (fun q hq => hl q (List.mem_cons_of_mem _ hq)) ht

theorem FSub.refl (ρ : Fm) : FSub ρ ρ := ⟨rfl, fun _ _ h => h⟩
theorem Sub.refl (h : H) : Sub h h := ⟨rfl, fun _ _ e => e⟩

/-! what comes behind is left alone till it is its turn -/
@[congr] theorem ob_congr {α β : Type} {x x' : Option α} {f : α → Option β} (e : x = x') : ob x f = ob x' f := by rw [e]
@[congr] theorem bc_congr {α : Type} {c c' : Bool} {a b : α} (e : c = c') : bc c a b = bc c' a b := by rw [e]
@[congr] theorem orE_congr {α : Type} {a a' b : Option α} (e : a = a') : orE a b = orE a' b := by rw [e]
@[congr] theorem after_congr {β : Type} {call : Caller} {r r' : R} {k : AV → H → Option β} (e : r = r') : after call r k = after call r' k := by rw [e]

variable {P : Program} {X : Ext} {ρ : Fm} {h : H} {ε : Env}

theorem runOps_nil {call : Caller} {ops : List Oper} : runOps P X call ops [] ρ h = some (ρ, h) := rfl
theorem wanted_none {ops : List Oper} : wantedA ops ρ none = some true := rfl
theorem wanted_some {ops : List Oper} {j : Nat} {b : Bool} : wantedA ops ρ (some (j, b)) = ob (guardTmp ops j) fun d => ob (tget ρ d) fun v => wants b v := rfl
theorem wants_bool {b c : Bool} : wants b (.bool c) = some (Bool.casesOn b (not c) c) := rfl
theorem wants_t {c : Bool} : wants true (.bool c) = some c := rfl
theorem wants_f {c : Bool} : wants false (.bool c) = some (!c) := rfl
theorem after_val {β : Type} {call : Caller} {v : AV} {k : AV → H → Option β} : after call (.val v h) k = k v h := rfl
theorem after_call {β : Type} {call : Caller} {f : FuncId} {args : List AV} {k : AV → H → Option β} : after call (.call f args h) k = ob (call f args h) fun p => k p.1 p.2 := rfl
theorem ret_v {v : AV} : retV v h = some (.val v h) := rfl

theorem ev_tmp {t : Nat} : ev P ρ (.tmp t) = tget ρ t := rfl
theorem ev_int {k : IntKind} {n : Int} : ev P ρ (.const (.int k n)) = some (.int k n) := rfl
theorem ev_bool {b : Bool} : ev P ρ (.const (.bool b)) = some (.bool b) := rfl
theorem ev_nils : ev P ρ (.const (.slice none 0 0)) = some .nils := rfl
theorem ev_nilp : ev P ρ (.const (.pointer none)) = some .nilp := rfl
theorem ev_nili : ev P ρ (.const .nilIface) = some .nili := rfl
theorem ev_str {s : ByteArray} : ev P ρ (.const (.string s)) = some (.str s.data.toList) := rfl
theorem ev_func {f : FuncId} : ev P ρ (.func f) = some (.fn f [] []) := rfl

theorem x_move {x : Operand} : exec P X ε h (.move x) = ob (ε x) fun v => retV v h := rfl
theorem x_assign {x : Operand} : exec P X ε h (.assign x) = ob (ε x) fun v => retV v h := rfl
theorem x_pick {c a b : Operand} : exec P X ε h (.pick c a b) = ob (ε c) fun c => ob (asB c) fun t => ob (bc t (ε a) (ε b)) fun v => retV v h := rfl
theorem asB_bool {b : Bool} : asB (.bool b) = some b := rfl
theorem asPtr_ptr {b o : Nat} : asPtr (.ptr b o) = some (b, o) := rfl
theorem x_binOp {op : BinOp} {t u : TypeId} {x y : Operand} : exec P X ε h (.binOp op t x y u) = ob (ε x) fun a => ob (ε y) fun b => ob (orE (binop P h (or (isConst x) (isConst y)) t op a b) (X.bin op t a b)) fun v => retV v h := rfl
theorem x_unOp {op : UnOp} {t : TypeId} {x : Operand} : exec P X ε h (.unOp op t x) = ob (ε x) fun a => ob (orE (unop op a) (X.un op t a)) fun v => retV v h := rfl
theorem x_convert {s d : TypeId} {x : Operand} : exec P X ε h (.convert s d x) = ob (P.underlying s) fun s => ob (P.underlying d) fun d => ob (ε x) fun v => orE (convD P s d v h) (ob (X.cv s d v) fun v => retV v h) := rfl
theorem x_load {t : TypeId} {x : Operand} : exec P X ε h (.load t x) = ob (ε x) fun v => ob (asPtr v) fun p => ob (loadT P h t p.1 p.2) fun v => retV v h := rfl
theorem x_store {t : TypeId} {a x : Operand} : exec P X ε h (.store t a x) = ob (ε a) fun v => ob (asPtr v) fun p => ob (ε x) fun x => ob (storeT P h t p.1 p.2 x) fun h => retV undef h := rfl
theorem x_indexAddr {t : TypeId} {x ix : Operand} : exec P X ε h (.indexAddr t x ix) = ob (P.underlying t) fun d => ob (ε ix) fun i => ob (asIdx i) fun i => ob (ε x) fun x => indexAddrD P h d x i := rfl
theorem x_buildSlice {t : TypeId} {len : Nat} {ps : Array (Nat × Operand)} : exec P X ε h (.buildSlice t len ps) = ob (telem P t) fun e => ob (elemInfo P e) fun i => ob (evParts ε ps.toList) fun ps => bc (Nat.ble (Nat.mul len i.1) 16777216) (ob (fillParts (fun j => some (Nat.mul j i.1, i.1)) ps (repl i.2.2 len)) fun cs => newSl h cs len len i.1 true) none := rfl
theorem x_makeSlice {t : TypeId} {l c : Operand} : exec P X ε h (.makeSlice t l c) = ob (telem P t) fun e => ob (elemInfo P e) fun i => ob (ε l) fun l => ob (asIdx l) fun l => ob (ε c) fun c => ob (asIdx c) fun c => bc (Nat.ble l c) (bc (Nat.ble (Nat.mul c (Nat.add i.2.1 1)) maxBytes) (newSl h (repl i.2.2 c) l c i.1 true) none) none := rfl
theorem x_blen {ts : Array TypeId} {args : Array Operand} : exec P X ε h (.call ⟨.builtin .len, args, ts⟩) = ob (evs ε args.toList) fun args => orE (x_len P h ts args) (ob (X.bu .len ts args) fun v => retV v h) := rfl
theorem x_bappend {ts : Array TypeId} {args : Array Operand} : exec P X ε h (.call ⟨.builtin .append, args, ts⟩) = ob (evs ε args.toList) fun args => orE (x_append P h ts args) (ob (X.bu .append ts args) fun v => retV v h) := rfl
theorem x_call {f : Operand} {ts : Array TypeId} {args : Array Operand} : exec P X ε h (.call ⟨.value f, args, ts⟩) = ob (evs ε args.toList) fun args => ob (ε f) fun v => ob (fnOf v) fun x => callF P X x.1 (x.2.1 ++ (args ++ x.2.2)) h := rfl
theorem callF_body {f : FuncId} {fn : Func} {b : Code} {args : List AV} (hf : P.funcs[f]? = some fn) (hb : fn.body = some b) : callF P X f args h = some (.call f args h) := by
  unfold callF; rw [hf, ob_some, hb]
theorem fnOf_fn {f : FuncId} {a b : List AV} : fnOf (.fn f a b) = some (f, a, b) := rfl
theorem evs_nil : evs ε [] = some [] := rfl
theorem evs_cons {x : Operand} {l : List Operand} : evs ε (x :: l) = ob (ε x) fun v => ob (evs ε l) fun r => some (v :: r) := rfl
theorem orE_some {α : Type} {a : α} {b : Option α} : orE (some a) b = some a := rfl
theorem orE_none {α : Type} {b : Option α} : orE none b = b := rfl

/-! one operation behind the other -/
theorem rput {n d : Nat} {v : AV} {l : List (Nat × AV)} (hd : d < n) : putT (fm n l) (some d) v = some (fm n ((d, v) :: l)) := fput_fm hd
theorem rstep {call : Caller} {ops l : List Oper} {o : Oper} {v : AV} {h1 : H} {ρ1 : Fm} {r : Fm × H} (hw : wantedA ops ρ o.guard = some true) (he : exec P X (ev P ρ) h o.op = some (.val v h1)) (hp : putT ρ o.dst v = some ρ1)
    (hr : runOps P X call ops l ρ1 h1 = some r) : runOps P X call ops (o :: l) ρ h = some r := by
  rw [runOps_cons, hw, ob_some, bc_true, he, ob_some, after_val, hp, ob_some]; exact hr
theorem rskip {call : Caller} {ops l : List Oper} {o : Oper} {ρ1 : Fm} {r : Fm × H} (hw : wantedA ops ρ o.guard = some false) (hp : putT ρ o.dst undef = some ρ1)
    (hr : runOps P X call ops l ρ1 h = some r) : runOps P X call ops (o :: l) ρ h = some r := by
  rw [runOps_cons, hw, ob_some, bc_false, hp, ob_some]; exact hr

/-! numbers -/
theorem asIdx_nat {k : IntKind} {n : Nat} : asIdx (.int k (n : Int)) = some n := rfl
theorem asIdx_ofNat {k : IntKind} {n : Nat} : asIdx (.int k (Int.ofNat n)) = some n := rfl
theorem leI_dec (a b : Int) : leI a b = decide (a ≤ b) := by
  cases a with
  | ofNat m => cases b with
    | ofNat n => show Nat.ble m n = _
                 rw [Bool.eq_iff_iff, ble_t, decide_eq_true_eq]; exact Int.ofNat_le.symm
    | negSucc n => show false = decide ((m : Int) ≤ Int.negSucc n)
                   symm; rw [decide_eq_false_iff_not]; omega
  | negSucc m => cases b with
    | ofNat n => show true = decide (Int.negSucc m ≤ (n : Int))
                 symm; rw [decide_eq_true_eq]; omega
    | negSucc n => show Nat.ble n m = _
                   rw [Bool.eq_iff_iff, ble_t, decide_eq_true_eq]; omega
theorem eqI_dec (a b : Int) : eqI a b = decide (a = b) := by
  cases a with
  | ofNat m => cases b with
    | ofNat n => show Nat.beq m n = _
                 rw [Bool.eq_iff_iff, beq_t, decide_eq_true_eq]; exact Int.ofNat_inj.symm
    | negSucc n => show false = decide ((m : Int) = Int.negSucc n)
                   symm; rw [decide_eq_false_iff_not]; omega
  | negSucc m => cases b with
    | ofNat n => show false = decide (Int.negSucc m = (n : Int))
                 symm; rw [decide_eq_false_iff_not]; omega
    | negSucc n => show Nat.beq m n = _
                   rw [Bool.eq_iff_iff, beq_t, decide_eq_true_eq]; omega

section
variable {lit : Bool} {t : TypeId} {k k' : IntKind} {a b : Int}
theorem bi_int {op : BinOp} : binop P h lit t op (.int k a) (.int k' b) = intBin op k a k' b := rfl
theorem bi_add : intBin .add k a k b = some (.int k (k.wrap (a + b))) := by rw [← wrapK_eq]; cases k <;> rfl
theorem bi_sub : intBin .sub k a k b = some (.int k (k.wrap (a - b))) := by rw [← wrapK_eq]; cases k <;> rfl
theorem bi_mul : intBin .mul k a k b = some (.int k (k.wrap (a * b))) := by rw [← wrapK_eq]; cases k <;> rfl
theorem bi_quo (hb : b ≠ 0) : intBin .quo k a k b = some (.int k (k.wrap (Int.tdiv a b))) := by
  have : eqI b 0 = false := by rw [eqI_dec]; exact decide_eq_false hb
  rw [← wrapK_eq]
  cases k <;> (show bc (eqI b 0) none _ = _; rw [this]; rfl)
theorem bi_rem (hb : b ≠ 0) : intBin .rem k a k b = some (.int k (Int.tmod a b)) := by
  have : eqI b 0 = false := by rw [eqI_dec]; exact decide_eq_false hb
  cases k <;> (show bc (eqI b 0) none _ = _; rw [this]; rfl)
theorem bi_lss : intBin .lss k a k b = some (.bool (decide (a < b))) := by
  have : (not (leI b a)) = decide (a < b) := by rw [leI_dec]; by_cases h : b ≤ a <;> simp [h] <;> omega
  rw [← this]; cases k <;> rfl
theorem bi_leq : intBin .leq k a k b = some (.bool (decide (a ≤ b))) := by rw [← leI_dec]; cases k <;> rfl
theorem bi_gtr : intBin .gtr k a k b = some (.bool (decide (b < a))) := by
  have : (not (leI a b)) = decide (b < a) := by rw [leI_dec]; by_cases h : a ≤ b <;> simp [h] <;> omega
  rw [← this]; cases k <;> rfl
theorem bi_geq : intBin .geq k a k b = some (.bool (decide (b ≤ a))) := by rw [← leI_dec]; cases k <;> rfl
theorem bi_eql : intBin .eql k a k b = some (.bool (decide (a = b))) := by rw [← eqI_dec]; cases k <;> rfl
theorem bi_neq : intBin .neq k a k b = some (.bool (!decide (a = b))) := by rw [← eqI_dec]; cases k <;> rfl
end

/-! numbers that fit -/
theorem wrap_fit {k : IntKind} {n : Nat} (h : n < halfK k) : k.wrap (n : Int) = n := by
  rw [← wrapK_eq]
  show bc (Nat.ble (halfK k) n) _ (Int.ofNat n) = _
  rw [ble_f.2 h]; rfl
theorem natK_fit {k : IntKind} {n : Nat} (h : n < modK k) : natK k (n : Int) = n := Nat.mod_eq_of_lt h
theorem backK_fit {k : IntKind} {n : Nat} (h : n < halfK k) : backK k n = n := by
  show bc (Nat.ble (halfK k) n) _ (Int.ofNat n) = _
  rw [ble_f.2 h]; rfl
theorem half_le_mod (k : IntKind) : halfK k ≤ modK k := by cases k <;> decide
theorem xor_lt_mod {k : IntKind} {a b : Nat} (ha : a < modK k) (hb : b < modK k) : a ^^^ b < modK k := by
  rw [modK_eq] at *; exact Nat.xor_lt_two_pow ha hb
theorem and_lt_mod {k : IntKind} {a b : Nat} (ha : a < modK k) : a &&& b < modK k := Nat.lt_of_le_of_lt Nat.and_le_left ha
theorem or_lt_mod {k : IntKind} {a b : Nat} (ha : a < modK k) (hb : b < modK k) : a ||| b < modK k := by
  rw [modK_eq] at *; exact Nat.or_lt_two_pow ha hb
section
variable {k : IntKind} {a b : Nat}
/-- numbers of a kind without a sign -/
theorem bi_and_u (hs : sgnK k = false) (ha : a < modK k) (hb : b < modK k) : intBin .and k (a : Int) k (b : Int) = some (.int k ((a &&& b : Nat) : Int)) := by
  have hh : halfK k = modK k := by cases k <;> first | rfl | cases hs
  have e : backK k (Nat.land (natK k (a : Int)) (natK k (b : Int))) = ((a &&& b : Nat) : Int) := by
    rw [natK_fit ha, natK_fit hb]; exact backK_fit (hh ▸ and_lt_mod ha)
  rw [← e]; cases k <;> rfl
theorem bi_or_u (hs : sgnK k = false) (ha : a < modK k) (hb : b < modK k) : intBin .or k (a : Int) k (b : Int) = some (.int k ((a ||| b : Nat) : Int)) := by
  have hh : halfK k = modK k := by cases k <;> first | rfl | cases hs
  have e : backK k (Nat.lor (natK k (a : Int)) (natK k (b : Int))) = ((a ||| b : Nat) : Int) := by
    rw [natK_fit ha, natK_fit hb]; exact backK_fit (hh ▸ or_lt_mod ha hb)
  rw [← e]; cases k <;> rfl
theorem bi_xor_u (hs : sgnK k = false) (ha : a < modK k) (hb : b < modK k) : intBin .xor k (a : Int) k (b : Int) = some (.int k ((a ^^^ b : Nat) : Int)) := by
  have hh : halfK k = modK k := by cases k <;> first | rfl | cases hs
  have e : backK k (Nat.xor (natK k (a : Int)) (natK k (b : Int))) = ((a ^^^ b : Nat) : Int) := by
    rw [natK_fit ha, natK_fit hb]; exact backK_fit (hh ▸ xor_lt_mod ha hb)
  rw [← e]; cases k <;> rfl
theorem bi_shr_u {k' : IntKind} {n : Nat} (hn : n ≤ bitsK k) : intBin .shr k (a : Int) k' (n : Int) = some (.int k ((a / 2 ^ n : Nat) : Int)) := by
  have h1 : shN k (n : Int) = some n := by
    show some (minN n (bitsK k)) = _
    unfold minN; rw [ble_t.2 hn]; rfl
  show ob (shN k (n : Int)) (fun n => some (shr k (a : Int) n)) = _
  rw [h1, ob_some]
  show some (AV.int k (Int.fdiv (a : Int) ((2 ^ n : Nat) : Int))) = _
  rw [Int.fdiv_eq_ediv_of_nonneg _ (Int.natCast_nonneg _), ← Int.natCast_ediv]
end
theorem cv_int {k : IntKind} {s : TypeDesc} {k' : IntKind} {n : Int} (hs : isIntD s = true) : convD P s (.int k) (.int k' n) h = some (.val (.int k (k.wrap n)) h) := by
  show bc (isIntD s) (convInt k (.int k' n) h) none = _
  rw [hs, bc_true, ← wrapK_eq]; rfl

/-! a call's frame at its begin -/
theorem entry0 {fn : Func} {n : Nat} (hn : fn.ntmps = n) (hk : 0 ≤ n) : entry fn [] = some (fm n []) := by
  unfold entry; rw [hn, show Nat.ble [].length n = true from ble_t.2 hk]; exact congrArg (fun t => some (Fm.mk n t)) (by kernel_rfl)
theorem entry1 {fn : Func} {n : Nat} {a0 : AV} (hn : fn.ntmps = n) (hk : 1 ≤ n) : entry fn [a0] = some (fm n [(0, a0)]) := by
  unfold entry; rw [hn, show Nat.ble [a0].length n = true from ble_t.2 hk]; exact congrArg (fun t => some (Fm.mk n t)) (by kernel_rfl)
theorem entry2 {fn : Func} {n : Nat} {a0 : AV} {a1 : AV} (hn : fn.ntmps = n) (hk : 2 ≤ n) : entry fn [a0, a1] = some (fm n [(1, a1), (0, a0)]) := by
  unfold entry; rw [hn, show Nat.ble [a0, a1].length n = true from ble_t.2 hk]; exact congrArg (fun t => some (Fm.mk n t)) (by kernel_rfl)
theorem entry3 {fn : Func} {n : Nat} {a0 : AV} {a1 : AV} {a2 : AV} (hn : fn.ntmps = n) (hk : 3 ≤ n) : entry fn [a0, a1, a2] = some (fm n [(2, a2), (1, a1), (0, a0)]) := by
  unfold entry; rw [hn, show Nat.ble [a0, a1, a2].length n = true from ble_t.2 hk]; exact congrArg (fun t => some (Fm.mk n t)) (by kernel_rfl)
theorem entry4 {fn : Func} {n : Nat} {a0 : AV} {a1 : AV} {a2 : AV} {a3 : AV} (hn : fn.ntmps = n) (hk : 4 ≤ n) : entry fn [a0, a1, a2, a3] = some (fm n [(3, a3), (2, a2), (1, a1), (0, a0)]) := by
  unfold entry; rw [hn, show Nat.ble [a0, a1, a2, a3].length n = true from ble_t.2 hk]; exact congrArg (fun t => some (Fm.mk n t)) (by kernel_rfl)
theorem entry5 {fn : Func} {n : Nat} {a0 : AV} {a1 : AV} {a2 : AV} {a3 : AV} {a4 : AV} (hn : fn.ntmps = n) (hk : 5 ≤ n) : entry fn [a0, a1, a2, a3, a4] = some (fm n [(4, a4), (3, a3), (2, a2), (1, a1), (0, a0)]) := by
  unfold entry; rw [hn, show Nat.ble [a0, a1, a2, a3, a4].length n = true from ble_t.2 hk]; exact congrArg (fun t => some (Fm.mk n t)) (by kernel_rfl)
theorem entry6 {fn : Func} {n : Nat} {a0 : AV} {a1 : AV} {a2 : AV} {a3 : AV} {a4 : AV} {a5 : AV} (hn : fn.ntmps = n) (hk : 6 ≤ n) : entry fn [a0, a1, a2, a3, a4, a5] = some (fm n [(5, a5), (4, a4), (3, a3), (2, a2), (1, a1), (0, a0)]) := by
  unfold entry; rw [hn, show Nat.ble [a0, a1, a2, a3, a4, a5].length n = true from ble_t.2 hk]; exact congrArg (fun t => some (Fm.mk n t)) (by kernel_rfl)
theorem entry7 {fn : Func} {n : Nat} {a0 : AV} {a1 : AV} {a2 : AV} {a3 : AV} {a4 : AV} {a5 : AV} {a6 : AV} (hn : fn.ntmps = n) (hk : 7 ≤ n) : entry fn [a0, a1, a2, a3, a4, a5, a6] = some (fm n [(6, a6), (5, a5), (4, a4), (3, a3), (2, a2), (1, a1), (0, a0)]) := by
  unfold entry; rw [hn, show Nat.ble [a0, a1, a2, a3, a4, a5, a6].length n = true from ble_t.2 hk]; exact congrArg (fun t => some (Fm.mk n t)) (by kernel_rfl)
theorem entry8 {fn : Func} {n : Nat} {a0 : AV} {a1 : AV} {a2 : AV} {a3 : AV} {a4 : AV} {a5 : AV} {a6 : AV} {a7 : AV} (hn : fn.ntmps = n) (hk : 8 ≤ n) : entry fn [a0, a1, a2, a3, a4, a5, a6, a7] = some (fm n [(7, a7), (6, a6), (5, a5), (4, a4), (3, a3), (2, a2), (1, a1), (0, a0)]) := by
  unfold entry; rw [hn, show Nat.ble [a0, a1, a2, a3, a4, a5, a6, a7].length n = true from ble_t.2 hk]; exact congrArg (fun t => some (Fm.mk n t)) (by kernel_rfl)

/-! a call's results -/
theorem res0 {fn : Func} (hr : fn.results = #[]) : resultsA P fn ρ h = some (.tup []) := by
  unfold resultsA; rw [hr]; rfl
theorem res1 {fn : Func} {t : Nat} {v : AV} (hr : fn.results = #[.tmp t]) (hv : tget ρ t = some v) : resultsA P fn ρ h = some v := by
  unfold resultsA; rw [hr]
  show ob (ob (tget ρ t) fun v => ob (some []) fun vs => some (v :: vs)) _ = _
  rw [hv]; rfl
theorem res2 {fn : Func} {t t' : Nat} {v v' : AV} (hr : fn.results = #[.tmp t, .tmp t']) (hv : tget ρ t = some v) (hv' : tget ρ t' = some v') : resultsA P fn ρ h = some (.tup [v, v']) := by
  unfold resultsA; rw [hr]
  show ob (ob (tget ρ t) fun v => ob (ob (tget ρ t') fun v => ob (some []) fun vs => some (v :: vs)) fun vs => some (v :: vs)) _ = _
  rw [hv, hv']; rfl

/-- it comes to something that is so -/
def Is {α : Type} (x : Option α) (K : α → Prop) : Prop := ∃ a, x = some a ∧ K a
theorem Is_some {α : Type} {a : α} {K : α → Prop} : Is (some a) K = K a := propext ⟨fun ⟨_, e, k⟩ => by cases e; exact k, fun k => ⟨a, rfl, k⟩⟩

/-- no callee is known -/
def call0 : Caller := fun _ _ _ => none

/-! bytes and cells of a slice -/
/-- these cells are a slice's -/
def SlAt (h : H) (s : AV) (es : Nat) (l : List AV) : Prop :=
  match s with
  | .nils => l = []
  | .sl0 => l = []
  | .sl b o n _ e _ => e = es ∧ l.length = n * es ∧ ∀ i, i < n * es → loadCell h b (o + i) = l[i]?
  | _ => False

theorem takeN_get {α : Type} {n o : Nat} {l r : List α} (e : takeN n (dropN o l) = some r) {i : Nat} (hi : i < n) : l[o + i]? = r[i]? := ((takeN_dropN e).2.2 i hi).symm

theorem loadCells_get {b o n : Nat} {l : List AV} (e : loadCells h b o n = some l) : l.length = n ∧ ∀ i, i < n → loadCell h b (o + i) = l[i]? := by
  unfold loadCells at e
  simp only [ob_eq] at e
  obtain ⟨x, hb, c, hc, hv⟩ := e
  refine ⟨(takeN_dropN hv).1, fun i hi => ?_⟩
  unfold loadCell
  rw [hb, ob_some, hc, ob_some, nth_eq]
  exact takeN_get hv hi

theorem toBytes_get : ∀ {l : List AV} {bs : List UInt8}, toBytes l = some bs → l = bs.map fun b => .int .u8 (b.toNat : Int)
  | [], bs, e => by
    have : some [] = some bs := e
    cases this; rfl
  | v :: l, bs, e => by
    have e' : ob (asByte v) (fun b => ob (toBytes l) fun r => some (b :: r)) = some bs := e
    simp only [ob_eq, Option.some.injEq] at e'
    obtain ⟨b, hb, r, hr, rfl⟩ := e'
    rw [List.map_cons, ← toBytes_get hr]
    congr 1
    cases v <;> simp only [asByte, reduceCtorEq] at hb
    rename_i k n
    cases k <;> simp only [kEq, kNo, Nat.beq] at hb <;> try (cases hb)
    cases n with
    | negSucc m => cases hb
    | ofNat m =>
      have hb' : bc (Nat.blt m 256) (some (UInt8.ofNat m)) none = some b := hb
      rw [bc_none, blt_t, Option.some.injEq] at hb'
      obtain ⟨h1, rfl⟩ := hb'
      have : (UInt8.ofNat m).toNat = m := by simp; omega
      rw [this]; rfl

theorem SlAt.of_bytes {s : AV} {bs : List UInt8} (e : bytesOf h s = some bs) : SlAt h s 1 (bs.map fun b => .int .u8 (b.toNat : Int)) := by
  cases s <;> simp only [bytesOf, reduceCtorEq, Option.some.injEq] at e
  · subst e; rfl
  · rename_i b o n cap es ex
    rw [bc_none, beq_t, ob_eq] at e
    obtain ⟨rfl, l, hl, hb⟩ := e
    obtain ⟨h1, h2⟩ := loadCells_get hl
    have := toBytes_get hb
    rw [← this]
    refine ⟨rfl, by omega, fun i hi => h2 i (by omega)⟩
  · subst e; rfl

theorem SlAt.len {s : AV} {es : Nat} {l : List AV} (e : SlAt h s es l) : ∃ n, lenOf s = some n ∧ l.length = n * es := by
  cases s <;> simp only [SlAt] at e
  · subst e; exact ⟨0, rfl, by simp⟩
  · rename_i b o n cap e' ex
    exact ⟨n, rfl, e.2.1⟩
  · subst e; exact ⟨0, rfl, by simp⟩

theorem SlAt.sl {s : AV} {es : Nat} {l : List AV} (e : SlAt h s es l) (hl : l ≠ []) : ∃ b o n cap ex, s = .sl b o n cap es ex ∧ l.length = n * es ∧ ∀ i, i < n * es → loadCell h b (o + i) = l[i]? := by
  cases s <;> simp only [SlAt] at e
  · exact absurd e hl
  · rename_i b o n cap e' ex
    obtain ⟨rfl, h1, h2⟩ := e
    exact ⟨b, o, n, cap, ex, rfl, h1, h2⟩
  · exact absurd e hl

theorem lenD_slice {e : TypeId} {x : AV} {n : Nat} (hx : lenOf x = some n) (hs : asStr x = none) : lenD P (.slice e) x h = some (.val (.int .i64 (n : Int)) h) := by
  show bc (asStr x).isSome none (ob (lenOf x) fun n => retV (.int .i64 (Int.ofNat n)) h) = _
  rw [hs, hx]; rfl

theorem SlAt.noStr {s : AV} {es : Nat} {l : List AV} (e : SlAt h s es l) : asStr s = none := by
  cases s <;> first | rfl | (simp only [SlAt] at e)

theorem len_slice {t e : TypeId} {x : AV} {n : Nat} (ht : P.underlying t = some (.slice e)) (hx : lenOf x = some n) (hs : asStr x = none) : x_len P h #[t] [x] = some (.val (.int .i64 (n : Int)) h) := by
  show ob (P.underlying t) (fun d => lenD P d x h) = _
  rw [ht]; exact lenD_slice (P := P) (e := e) hx hs

theorem ix_slice {e : TypeId} {b o n cap es i : Nat} {ex : Bool} (hs : tsize P e = some es) (hi : i < n) : indexAddrD P h (.slice e) (.sl b o n cap es ex) i = some (.val (.ptr b (o + i * es)) h) := by
  show ob (tsize P e) (fun s => bc (Nat.beq es s) (bc (Nat.blt i n) (retV (.ptr b (Nat.add o (Nat.mul i s))) h) none) none) = _
  rw [hs, ob_some, beq_t.2 rfl, bc_true, blt_t.2 hi, bc_true]; rfl

theorem load1 {t : TypeId} {b o : Nat} (ht : tagg P t = some false) : loadT P h t b o = loadCell h b o := by
  show ob (tagg P t) _ = _
  rw [ht]; rfl

section
variable [Th]
theorem call0_ok : COk P call0 := fun _ _ _ _ _ e => by cases e

theorem AC.reg (hP : POk P) (hX : XOk P X) {call : Caller} (hc : COk P call) {id : Nat} {ops : Array Oper} {ρ ρ' : Fm} {h' : H} {y : Code} {Q : AX → Fm → H → Prop}
    (hx : runOps P X call ops.toList ops.toList ρ h = some (ρ', h')) (hy : AC P y ρ' h' Q) : AC P (.seq (.region id ops false) y) ρ h Q :=
  .seq (.region hP hX hc (d := false) hx hy)
theorem AC.drawn (hP : POk P) (hX : XOk P X) {call : Caller} (hc : COk P call) {id : Nat} {ops : Array Oper} {ρ ρ' : Fm} {h' : H} {y : Code} {Q : AX → Fm → H → Prop}
    (hx : runDraw P X call ops.toList ρ h = some (ρ', h')) (hy : AC P y ρ' h' Q) : AC P (.seq (.region id ops true) y) ρ h Q :=
  .seq (.region hP hX hc (d := true) hx hy)
theorem AC.reg1 (hP : POk P) (hX : XOk P X) {call : Caller} (hc : COk P call) {id : Nat} {ops : Array Oper} {ρ ρ' : Fm} {h' : H} {Q : AX → Fm → H → Prop}
    (hx : runOps P X call ops.toList ops.toList ρ h = some (ρ', h')) (hy : Q .normal ρ' h') : AC P (.region id ops false) ρ h Q :=
  .region hP hX hc (d := false) hx hy

/-- two pieces of code, by what holds between them -/
theorem AC.seqM {x y : Code} {ρ : Fm} {Q : AX → Fm → H → Prop} (M : Fm → H → Prop) (hx : AC P x ρ h (AX.andThen M Q)) (hy : ∀ ρ' h', M ρ' h' → AC P y ρ' h' Q) : AC P (.seq x y) ρ h Q :=
  .seq (hx.mono fun e ρ' h' q => match e, q with
    | .normal, q => hy ρ' h' q
    | .exit _, q => q
    | .goto _, q => q
    | .ret, q => q)

theorem AC.next {c : Code} {i : Nat} {q : Operand} {ρ : Fm} {Q : AX → Fm → H → Prop} (hv : ev P ρ q = some (.bool true)) (hy : AC P c ρ h Q) : AC P (.seq (.cond q .skip (.exit i)) c) ρ h Q :=
  .seq (.cond (t := true) hv (.skip hy))
theorem AC.leave {c : Code} {i : Nat} {q : Operand} {ρ : Fm} {Q : AX → Fm → H → Prop} (hv : ev P ρ q = some (.bool false)) (hy : Q (.exit i) ρ h) : AC P (.seq (.cond q .skip (.exit i)) c) ρ h Q :=
  .seq (.cond (t := false) hv (.exit hy))

theorem AC.next1 {i : Nat} {q : Operand} {ρ : Fm} {N : Fm → H → Prop} {Q : AX → Fm → H → Prop} (hv : ev P ρ q = some (.bool true)) (hy : N ρ h) : AC P (.cond q .skip (.exit i)) ρ h (AX.andThen N Q) :=
  .cond (t := true) hv (.skip hy)
theorem AC.leave1 {i : Nat} {q : Operand} {ρ : Fm} {N : Fm → H → Prop} {Q : AX → Fm → H → Prop} (hv : ev P ρ q = some (.bool false)) (hy : Q (.exit i) ρ h) : AC P (.cond q .skip (.exit i)) ρ h (AX.andThen N Q) :=
  .cond (t := false) hv (.exit hy)

/-- a loop, by a measure -/
theorem AC.loopM {b : Code} {Q : AX → Fm → H → Prop} (I : Nat → Fm → H → Prop)
    (body : ∀ m ρ h, I m ρ h → AC P b ρ h (AX.andThen (fun ρ' h' => ∃ m' ρ0 h0, m' < m ∧ I m' ρ0 h0 ∧ FSub ρ0 ρ' ∧ Sub h0 h') Q)) :
    ∀ m ρ h, I m ρ h → AC P (.loop b) ρ h Q := by
  intro m
  induction m using Nat.strongRecOn with
  | _ m ih =>
    intro ρ h hI
    refine AC.loop ((body m ρ h hI).mono ?_)
    intro e ρ' h' q
    cases e with
    | normal =>
      obtain ⟨m', ρ0, h0, hm, hI', u, v⟩ := q
      exact (ih m' hm ρ0 h0 hI').weak u v
    | exit i => exact q
    | goto l => exact q
    | ret => exact q
end

end Go.Ab
