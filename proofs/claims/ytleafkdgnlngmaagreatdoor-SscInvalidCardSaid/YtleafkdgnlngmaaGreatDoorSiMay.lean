/- The walks of label.May at a name that ends in '-', and of Fill. -/
import Derived.Test.YtleafkdgnlngmaaGreatDoorSiEqual
set_option linter.unusedVariables false
set_option linter.unusedSimpArgs false
namespace Go.Ab.T
open Go Go.Ab Go.Proofs
theorem u9 : Tryz.prog.underlying 9 = some .string := Tryz.underlying9
section
variable {P : Program} {X : Ext} {h : H} {ε : Env}
theorem x_slice {t : TypeId} {x : Operand} {lo hi mx : Option Operand} : exec P X ε h (.slice t x lo hi mx) = ob (P.underlying t) fun d => ob (ε x) fun x => ob (evO ε lo) fun lo => ob (evO ε hi) fun hi => ob (evO ε mx) fun mx => ob (sliceV P h d x lo hi mx) fun v => retV v h := rfl
theorem evO_none : evO ε none = some none := rfl
theorem evO_some {x : Operand} : evO ε (some x) = ob (ε x) fun v => some (some v) := rfl
theorem len_str {l : List UInt8} {t : TypeId} (ht : P.underlying t = some .string) : Go.Ab.x_len P h #[t] [.str l] = some (.val (.int .i64 (l.length : Int)) h) := by
  show ob (P.underlying t) (fun d => lenD P d (.str l) h) = _
  rw [ht]; rfl
theorem bi_str {lit : Bool} {t : TypeId} {op : BinOp} {a b : List UInt8} : binop P h lit t op (.str a) (.str b) = strBin op a b := rfl
theorem sb_eql {a b : List UInt8} : strBin .eql a b = some (.bool (bytesEq a b)) := rfl
theorem bytesEq_refl' (l : List UInt8) : bytesEq l l = true := by rw [bytesEq_nat]; simp
theorem bytesEq_nil (n : List UInt8) (b : UInt8) : bytesEq (n ++ [b]) [] = false := by cases n <;> rfl
theorem slice_pre (n : List UInt8) (b : UInt8) : ∃ l, sliceV P h .string (.str (n ++ [b])) none (some (.int .i64 1)) none = some (.str l) := by
  refine ⟨(n ++ [b]).take 1, ?_⟩
  show ob (ob (some 1) fun i => bc (Nat.ble i (n ++ [b]).length) (some i) none) (fun h => ob (some 0) fun l => ob (takeN (Nat.sub h l) (dropN l (n ++ [b]))) fun r => some (AV.str r)) = _
  rw [ob_some, ble_t.2 (by simp), bc_true, ob_some, ob_some]
  show ob (takeN 1 (dropN 0 (n ++ [b]))) _ = _
  rw [takeN_eq, dropN_eq, List.drop_zero, if_pos (by simp), ob_some]
theorem slice_suf (n : List UInt8) (b : UInt8) : sliceV P h .string (.str (n ++ [b])) (some (.int .i64 (n.length : Int))) none none = some (.str [b]) := by
  show ob (some (n ++ [b]).length) (fun h => ob (ob (some n.length) fun i => bc (Nat.ble i h) (some i) none) fun l => ob (takeN (Nat.sub h l) (dropN l (n ++ [b]))) fun r => some (AV.str r)) = _
  rw [ob_some, ob_some, ble_t.2 (by simp), bc_true, ob_some, dropN_eq, takeN_eq]
  have h1 : (n ++ [b]).drop n.length = [b] := by simp
  have h2 : Nat.sub (n ++ [b]).length n.length = 1 := by show (n ++ [b]).length - n.length = 1; simp
  rw [h1, h2, if_pos (by simp), ob_some]; rfl
end

variable [Th] {X : Ext} {h : H}
theorem lpre_ok (hP : POk Tryz.prog) (hX : XOk Tryz.prog X) (n : List UInt8) : ACall Tryz.prog 103 [.str (n ++ [45]), .str [45]] h fun v h' => (∃ b, v = .bool b) ∧ h' = h := by
  obtain ⟨pl, hsl⟩ := slice_pre (P := Tryz.prog) (h := h) n 45
  refine ACall.body Tryz.func103 rfl (ρ := fm 18 [(1, .str [45]), (0, .str (n ++ [45]))]) (entry2 Tryz.ntmps103 (by decide)) ?_
  apply AC.reg hP hX call0_ok
  · repeat (first | (apply rstep; (· exact rfl); (· (simp only [↓ob_some, ↓bc_true, ↓bc_false, ↓after_val, ↓orE_some, runOps_cons, runOps_nil, wanted_none, ob_some, bc_true, bc_false, x_move, x_assign, x_pick, asB_bool, ev_int, ev_bool, ev_nils, ev_str, ev_tmp, ret_v, after_val, putT_some, putT_none, fput_fm, tget_hit, tget_miss, ne_eq, Nat.reduceEqDiff, not_false_eq_true, Nat.reduceLT, orE_some, x_binOp, bi_int, bi_lss, bi_leq, bi_gtr, bi_geq, bi_eql, bi_neq, bi_add, x_indexAddr, x_load, asPtr_ptr, x_convert, x_blen, evs_cons, evs_nil] <;> exact rfl)); (· (first | exact rput (by decide) | exact putT_none))))
    exact rfl
  have hge : (decide (((([45] : List UInt8).length : Nat) : Int) ≤ (((n ++ [45] : List UInt8).length : Nat) : Int))) = true := by rw [decide_eq_true_eq]; simp; omega
  have hsl' : sliceV Tryz.prog h .string (.str (n ++ [45])) none (some (.int .i64 ((([45] : List UInt8).length : Nat) : Int))) none = some (.str pl) := hsl
  apply AC.reg hP hX call0_ok
  · repeat (first | (apply rstep; (· (first | exact rfl | (simp only [List.toList_toArray, wanted_some, wants_t, wants_f, guardTmp, nth_eq, List.getElem?_cons_succ, List.getElem?_cons_zero, ob_some, tget_hit, tget_miss, ne_eq, Nat.reduceEqDiff, not_false_eq_true, Bool.not_true, Bool.not_false, x_slice, evO_none, evO_some, u9, len_str u9, bi_str, sb_eql, hge, hsl']))); (· (simp only [↓ob_some, ↓bc_true, ↓bc_false, ↓after_val, ↓orE_some, runOps_cons, runOps_nil, wanted_none, ob_some, bc_true, bc_false, x_move, x_assign, x_pick, asB_bool, ev_int, ev_bool, ev_nils, ev_str, ev_tmp, ret_v, after_val, putT_some, putT_none, fput_fm, tget_hit, tget_miss, ne_eq, Nat.reduceEqDiff, not_false_eq_true, Nat.reduceLT, orE_some, x_binOp, bi_int, bi_lss, bi_leq, bi_gtr, bi_geq, bi_eql, bi_neq, bi_add, x_indexAddr, x_load, asPtr_ptr, x_convert, x_blen, evs_cons, evs_nil, x_slice, evO_none, evO_some, u9, len_str u9, bi_str, sb_eql, hge, hsl'] <;> exact rfl)); (· (first | exact rput (by decide) | exact putT_none))) | (apply rskip; (· (first | exact rfl | (simp only [List.toList_toArray, wanted_some, wants_t, wants_f, guardTmp, nth_eq, List.getElem?_cons_succ, List.getElem?_cons_zero, ob_some, tget_hit, tget_miss, ne_eq, Nat.reduceEqDiff, not_false_eq_true, Bool.not_true, Bool.not_false, x_slice, evO_none, evO_some, u9, len_str u9, bi_str, sb_eql, hge, hsl']))); (· (first | exact rput (by decide) | exact putT_none))))
    exact rfl
  exact AC.ret ⟨rfl, _, res1 (t := 4) rfl (tget_hit ..), ⟨_, rfl⟩, rfl⟩
theorem pre_ok (hP : POk Tryz.prog) (hX : XOk Tryz.prog X) (n : List UInt8) : ACall Tryz.prog 63 [.str (n ++ [45]), .str [45]] h fun v h' => (∃ b, v = .bool b) ∧ h' = h := by
  refine ACall.body Tryz.func63 rfl (ρ := fm 8 [(1, .str [45]), (0, .str (n ++ [45]))]) (entry2 Tryz.ntmps63 (by decide)) ?_
  apply AC.reg hP hX call0_ok
  · repeat (first | (apply rstep; (· exact rfl); (· (simp only [↓ob_some, ↓bc_true, ↓bc_false, ↓after_val, ↓orE_some, runOps_cons, runOps_nil, wanted_none, ob_some, bc_true, bc_false, x_move, x_assign, x_pick, asB_bool, ev_int, ev_bool, ev_nils, ev_str, ev_tmp, ret_v, after_val, putT_some, putT_none, fput_fm, tget_hit, tget_miss, ne_eq, Nat.reduceEqDiff, not_false_eq_true, Nat.reduceLT, orE_some, x_binOp, bi_int, bi_lss, bi_leq, bi_gtr, bi_geq, bi_eql, bi_neq, bi_add, x_indexAddr, x_load, asPtr_ptr, x_convert, x_blen, evs_cons, evs_nil] <;> exact rfl)); (· (first | exact rput (by decide) | exact putT_none))))
    exact rfl
  apply AC.seq
  apply AC.ops
  apply AO.op hP hX
  · exact rfl
  · simp only [↓ob_some, ↓bc_true, ↓bc_false, ↓after_val, ↓orE_some, runOps_cons, runOps_nil, wanted_none, ob_some, bc_true, bc_false, x_move, x_assign, x_pick, asB_bool, ev_int, ev_bool, ev_nils, ev_str, ev_tmp, ret_v, after_val, putT_some, putT_none, fput_fm, tget_hit, tget_miss, ne_eq, Nat.reduceEqDiff, not_false_eq_true, Nat.reduceLT, orE_some, x_binOp, bi_int, bi_lss, bi_leq, bi_gtr, bi_geq, bi_eql, bi_neq, bi_add, x_indexAddr, x_load, asPtr_ptr, x_convert, x_blen, evs_cons, evs_nil] <;> exact rfl
  · (first | exact rput (by decide) | exact putT_none)
  apply AO.op hP hX
  · exact rfl
  · simp only [↓ob_some, ↓bc_true, ↓bc_false, ↓after_val, ↓orE_some, runOps_cons, runOps_nil, wanted_none, ob_some, bc_true, bc_false, x_move, x_assign, x_pick, asB_bool, ev_int, ev_bool, ev_nils, ev_str, ev_tmp, ret_v, after_val, putT_some, putT_none, fput_fm, tget_hit, tget_miss, ne_eq, Nat.reduceEqDiff, not_false_eq_true, Nat.reduceLT, orE_some, x_binOp, bi_int, bi_lss, bi_leq, bi_gtr, bi_geq, bi_eql, bi_neq, bi_add, x_indexAddr, x_load, asPtr_ptr, x_convert, x_blen, evs_cons, evs_nil] <;> exact rfl
  · (first | exact rput (by decide) | exact putT_none)
  apply AO.call hP hX
  · exact rfl
  · simp only [↓ob_some, ↓bc_true, ↓bc_false, ↓after_val, ↓orE_some, runOps_cons, runOps_nil, wanted_none, ob_some, bc_true, bc_false, x_move, x_assign, x_pick, asB_bool, ev_int, ev_bool, ev_nils, ev_str, ev_tmp, ret_v, after_val, putT_some, putT_none, fput_fm, tget_hit, tget_miss, ne_eq, Nat.reduceEqDiff, not_false_eq_true, Nat.reduceLT, orE_some, x_binOp, bi_int, bi_lss, bi_leq, bi_gtr, bi_geq, bi_eql, bi_neq, bi_add, x_indexAddr, x_load, asPtr_ptr, x_convert, x_blen, evs_cons, evs_nil, x_call, ev_func, fnOf_fn, callF_body Tryz.func103 rfl, List.nil_append, List.append_nil] <;> exact rfl
  · exact lpre_ok hP hX n
  rintro v h2 ⟨⟨b, rfl⟩, rfl⟩
  refine ⟨_, (by first | exact rput (by decide) | exact putT_none), ?_⟩
  apply AO.op hP hX
  · exact rfl
  · simp only [↓ob_some, ↓bc_true, ↓bc_false, ↓after_val, ↓orE_some, runOps_cons, runOps_nil, wanted_none, ob_some, bc_true, bc_false, x_move, x_assign, x_pick, asB_bool, ev_int, ev_bool, ev_nils, ev_str, ev_tmp, ret_v, after_val, putT_some, putT_none, fput_fm, tget_hit, tget_miss, ne_eq, Nat.reduceEqDiff, not_false_eq_true, Nat.reduceLT, orE_some, x_binOp, bi_int, bi_lss, bi_leq, bi_gtr, bi_geq, bi_eql, bi_neq, bi_add, x_indexAddr, x_load, asPtr_ptr, x_convert, x_blen, evs_cons, evs_nil] <;> exact rfl
  · (first | exact rput (by decide) | exact putT_none)
  apply AO.nil
  exact AC.ret ⟨rfl, _, res1 (t := 4) rfl (tget_hit ..), ⟨_, rfl⟩, rfl⟩
theorem lsuf_ok (hP : POk Tryz.prog) (hX : XOk Tryz.prog X) (n : List UInt8) (hn : n.length < 4294967296) : ACall Tryz.prog 104 [.str (n ++ [45]), .str [45]] h fun v h' => v = .bool true ∧ h' = h := by
  have hsl := slice_suf (P := Tryz.prog) (h := h) n 45
  refine ACall.body Tryz.func104 rfl (ρ := fm 21 [(1, .str [45]), (0, .str (n ++ [45]))]) (entry2 Tryz.ntmps104 (by decide)) ?_
  apply AC.reg hP hX call0_ok
  · repeat (first | (apply rstep; (· exact rfl); (· (simp only [↓ob_some, ↓bc_true, ↓bc_false, ↓after_val, ↓orE_some, runOps_cons, runOps_nil, wanted_none, ob_some, bc_true, bc_false, x_move, x_assign, x_pick, asB_bool, ev_int, ev_bool, ev_nils, ev_str, ev_tmp, ret_v, after_val, putT_some, putT_none, fput_fm, tget_hit, tget_miss, ne_eq, Nat.reduceEqDiff, not_false_eq_true, Nat.reduceLT, orE_some, x_binOp, bi_int, bi_lss, bi_leq, bi_gtr, bi_geq, bi_eql, bi_neq, bi_add, x_indexAddr, x_load, asPtr_ptr, x_convert, x_blen, evs_cons, evs_nil] <;> exact rfl)); (· (first | exact rput (by decide) | exact putT_none))))
    exact rfl
  have hge : (decide (((([45] : List UInt8).length : Nat) : Int) ≤ (((n ++ [45] : List UInt8).length : Nat) : Int))) = true := by rw [decide_eq_true_eq]; simp; omega
  have hsub : intBin .sub .i64 (((n ++ [45] : List UInt8).length : Nat) : Int) .i64 ((([45] : List UInt8).length : Nat) : Int) = some (.int .i64 (n.length : Int)) := by
    rw [bi_sub, show (((n ++ [45] : List UInt8).length : Nat) : Int) - ((([45] : List UInt8).length : Nat) : Int) = (n.length : Int) by simp, wrap_fit (show n.length < 9223372036854775808 by omega)]
  apply AC.reg hP hX call0_ok
  · repeat (first | (apply rstep; (· (first | exact rfl | (simp only [List.toList_toArray, wanted_some, wants_t, wants_f, guardTmp, nth_eq, List.getElem?_cons_succ, List.getElem?_cons_zero, ob_some, tget_hit, tget_miss, ne_eq, Nat.reduceEqDiff, not_false_eq_true, Bool.not_true, Bool.not_false, x_slice, evO_none, evO_some, u9, len_str u9, bi_str, sb_eql, hge, hsub, hsl, bytesEq_refl']))); (· (simp only [↓ob_some, ↓bc_true, ↓bc_false, ↓after_val, ↓orE_some, runOps_cons, runOps_nil, wanted_none, ob_some, bc_true, bc_false, x_move, x_assign, x_pick, asB_bool, ev_int, ev_bool, ev_nils, ev_str, ev_tmp, ret_v, after_val, putT_some, putT_none, fput_fm, tget_hit, tget_miss, ne_eq, Nat.reduceEqDiff, not_false_eq_true, Nat.reduceLT, orE_some, x_binOp, bi_int, bi_lss, bi_leq, bi_gtr, bi_geq, bi_eql, bi_neq, bi_add, x_indexAddr, x_load, asPtr_ptr, x_convert, x_blen, evs_cons, evs_nil, x_slice, evO_none, evO_some, u9, len_str u9, bi_str, sb_eql, hge, hsub, hsl, bytesEq_refl'] <;> exact rfl)); (· (first | exact rput (by decide) | exact putT_none))) | (apply rskip; (· (first | exact rfl | (simp only [List.toList_toArray, wanted_some, wants_t, wants_f, guardTmp, nth_eq, List.getElem?_cons_succ, List.getElem?_cons_zero, ob_some, tget_hit, tget_miss, ne_eq, Nat.reduceEqDiff, not_false_eq_true, Bool.not_true, Bool.not_false, x_slice, evO_none, evO_some, u9, len_str u9, bi_str, sb_eql, hge, hsub, hsl, bytesEq_refl']))); (· (first | exact rput (by decide) | exact putT_none))))
    exact rfl
  exact AC.ret ⟨rfl, _, res1 (t := 4) rfl (tget_hit ..), rfl, rfl⟩
theorem suf_ok (hP : POk Tryz.prog) (hX : XOk Tryz.prog X) (n : List UInt8) (hn : n.length < 4294967296) : ACall Tryz.prog 64 [.str (n ++ [45]), .str [45]] h fun v h' => v = .bool true ∧ h' = h := by
  refine ACall.body Tryz.func64 rfl (ρ := fm 8 [(1, .str [45]), (0, .str (n ++ [45]))]) (entry2 Tryz.ntmps64 (by decide)) ?_
  apply AC.reg hP hX call0_ok
  · repeat (first | (apply rstep; (· exact rfl); (· (simp only [↓ob_some, ↓bc_true, ↓bc_false, ↓after_val, ↓orE_some, runOps_cons, runOps_nil, wanted_none, ob_some, bc_true, bc_false, x_move, x_assign, x_pick, asB_bool, ev_int, ev_bool, ev_nils, ev_str, ev_tmp, ret_v, after_val, putT_some, putT_none, fput_fm, tget_hit, tget_miss, ne_eq, Nat.reduceEqDiff, not_false_eq_true, Nat.reduceLT, orE_some, x_binOp, bi_int, bi_lss, bi_leq, bi_gtr, bi_geq, bi_eql, bi_neq, bi_add, x_indexAddr, x_load, asPtr_ptr, x_convert, x_blen, evs_cons, evs_nil] <;> exact rfl)); (· (first | exact rput (by decide) | exact putT_none))))
    exact rfl
  apply AC.seq
  apply AC.ops
  apply AO.op hP hX
  · exact rfl
  · simp only [↓ob_some, ↓bc_true, ↓bc_false, ↓after_val, ↓orE_some, runOps_cons, runOps_nil, wanted_none, ob_some, bc_true, bc_false, x_move, x_assign, x_pick, asB_bool, ev_int, ev_bool, ev_nils, ev_str, ev_tmp, ret_v, after_val, putT_some, putT_none, fput_fm, tget_hit, tget_miss, ne_eq, Nat.reduceEqDiff, not_false_eq_true, Nat.reduceLT, orE_some, x_binOp, bi_int, bi_lss, bi_leq, bi_gtr, bi_geq, bi_eql, bi_neq, bi_add, x_indexAddr, x_load, asPtr_ptr, x_convert, x_blen, evs_cons, evs_nil] <;> exact rfl
  · (first | exact rput (by decide) | exact putT_none)
  apply AO.op hP hX
  · exact rfl
  · simp only [↓ob_some, ↓bc_true, ↓bc_false, ↓after_val, ↓orE_some, runOps_cons, runOps_nil, wanted_none, ob_some, bc_true, bc_false, x_move, x_assign, x_pick, asB_bool, ev_int, ev_bool, ev_nils, ev_str, ev_tmp, ret_v, after_val, putT_some, putT_none, fput_fm, tget_hit, tget_miss, ne_eq, Nat.reduceEqDiff, not_false_eq_true, Nat.reduceLT, orE_some, x_binOp, bi_int, bi_lss, bi_leq, bi_gtr, bi_geq, bi_eql, bi_neq, bi_add, x_indexAddr, x_load, asPtr_ptr, x_convert, x_blen, evs_cons, evs_nil] <;> exact rfl
  · (first | exact rput (by decide) | exact putT_none)
  apply AO.call hP hX
  · exact rfl
  · simp only [↓ob_some, ↓bc_true, ↓bc_false, ↓after_val, ↓orE_some, runOps_cons, runOps_nil, wanted_none, ob_some, bc_true, bc_false, x_move, x_assign, x_pick, asB_bool, ev_int, ev_bool, ev_nils, ev_str, ev_tmp, ret_v, after_val, putT_some, putT_none, fput_fm, tget_hit, tget_miss, ne_eq, Nat.reduceEqDiff, not_false_eq_true, Nat.reduceLT, orE_some, x_binOp, bi_int, bi_lss, bi_leq, bi_gtr, bi_geq, bi_eql, bi_neq, bi_add, x_indexAddr, x_load, asPtr_ptr, x_convert, x_blen, evs_cons, evs_nil, x_call, ev_func, fnOf_fn, callF_body Tryz.func104 rfl, List.nil_append, List.append_nil] <;> exact rfl
  · exact lsuf_ok hP hX n hn
  rintro v h2 ⟨rfl, rfl⟩
  refine ⟨_, (by first | exact rput (by decide) | exact putT_none), ?_⟩
  apply AO.op hP hX
  · exact rfl
  · simp only [↓ob_some, ↓bc_true, ↓bc_false, ↓after_val, ↓orE_some, runOps_cons, runOps_nil, wanted_none, ob_some, bc_true, bc_false, x_move, x_assign, x_pick, asB_bool, ev_int, ev_bool, ev_nils, ev_str, ev_tmp, ret_v, after_val, putT_some, putT_none, fput_fm, tget_hit, tget_miss, ne_eq, Nat.reduceEqDiff, not_false_eq_true, Nat.reduceLT, orE_some, x_binOp, bi_int, bi_lss, bi_leq, bi_gtr, bi_geq, bi_eql, bi_neq, bi_add, x_indexAddr, x_load, asPtr_ptr, x_convert, x_blen, evs_cons, evs_nil] <;> exact rfl
  · (first | exact rput (by decide) | exact putT_none)
  apply AO.nil
  exact AC.ret ⟨rfl, _, res1 (t := 4) rfl (tget_hit ..), rfl, rfl⟩

/-- no name that ends in '-' may be -/
theorem lmay_ok (hP : POk Tryz.prog) (hX : XOk Tryz.prog X) (n : List UInt8) (hn : n.length < 4294967296) : ACall Tryz.prog 31 [.str (n ++ [45])] h fun v h' => v = .bool false ∧ h' = h := by
  refine ACall.body Tryz.func31 rfl (ρ := fm 35 [(0, .str (n ++ [45]))]) (entry1 Tryz.ntmps31 (by decide)) ?_
  apply AC.reg hP hX call0_ok
  · repeat (first | (apply rstep; (· exact rfl); (· (simp only [↓ob_some, ↓bc_true, ↓bc_false, ↓after_val, ↓orE_some, runOps_cons, runOps_nil, wanted_none, ob_some, bc_true, bc_false, x_move, x_assign, x_pick, asB_bool, ev_int, ev_bool, ev_nils, ev_str, ev_tmp, ret_v, after_val, putT_some, putT_none, fput_fm, tget_hit, tget_miss, ne_eq, Nat.reduceEqDiff, not_false_eq_true, Nat.reduceLT, orE_some, x_binOp, bi_int, bi_lss, bi_leq, bi_gtr, bi_geq, bi_eql, bi_neq, bi_add, x_indexAddr, x_load, asPtr_ptr, x_convert, x_blen, evs_cons, evs_nil] <;> exact rfl)); (· (first | exact rput (by decide) | exact putT_none))))
    exact rfl
  refine AC.seqM (fun _ _ => False) ?_ (fun _ _ e => e.elim)
  refine AC.seqM (fun ρ' h' => h' = h ∧ tget ρ' 20 = some (.bool true) ∧ Fm.n ρ' = 35) ?_ ?_
  · apply AC.ops
    apply AO.op hP hX
    · exact rfl
    · simp only [↓ob_some, ↓bc_true, ↓bc_false, ↓after_val, ↓orE_some, runOps_cons, runOps_nil, wanted_none, ob_some, bc_true, bc_false, x_move, x_assign, x_pick, asB_bool, ev_int, ev_bool, ev_nils, ev_str, ev_tmp, ret_v, after_val, putT_some, putT_none, fput_fm, tget_hit, tget_miss, ne_eq, Nat.reduceEqDiff, not_false_eq_true, Nat.reduceLT, orE_some, x_binOp, bi_int, bi_lss, bi_leq, bi_gtr, bi_geq, bi_eql, bi_neq, bi_add, x_indexAddr, x_load, asPtr_ptr, x_convert, x_blen, evs_cons, evs_nil] <;> exact rfl
    · (first | exact rput (by decide) | exact putT_none)
    apply AO.op hP hX
    · exact rfl
    · simp only [↓ob_some, ↓bc_true, ↓bc_false, ↓after_val, ↓orE_some, runOps_cons, runOps_nil, wanted_none, ob_some, bc_true, bc_false, x_move, x_assign, x_pick, asB_bool, ev_int, ev_bool, ev_nils, ev_str, ev_tmp, ret_v, after_val, putT_some, putT_none, fput_fm, tget_hit, tget_miss, ne_eq, Nat.reduceEqDiff, not_false_eq_true, Nat.reduceLT, orE_some, x_binOp, bi_int, bi_lss, bi_leq, bi_gtr, bi_geq, bi_eql, bi_neq, bi_add, x_indexAddr, x_load, asPtr_ptr, x_convert, x_blen, evs_cons, evs_nil, bi_str, sb_eql, bytesEq_nil] <;> exact rfl
    · (first | exact rput (by decide) | exact putT_none)
    apply AO.op hP hX
    · exact rfl
    · simp only [↓ob_some, ↓bc_true, ↓bc_false, ↓after_val, ↓orE_some, runOps_cons, runOps_nil, wanted_none, ob_some, bc_true, bc_false, x_move, x_assign, x_pick, asB_bool, ev_int, ev_bool, ev_nils, ev_str, ev_tmp, ret_v, after_val, putT_some, putT_none, fput_fm, tget_hit, tget_miss, ne_eq, Nat.reduceEqDiff, not_false_eq_true, Nat.reduceLT, orE_some, x_binOp, bi_int, bi_lss, bi_leq, bi_gtr, bi_geq, bi_eql, bi_neq, bi_add, x_indexAddr, x_load, asPtr_ptr, x_convert, x_blen, evs_cons, evs_nil] <;> exact rfl
    · (first | exact rput (by decide) | exact putT_none)
    apply AO.op hP hX
    · (first | exact rfl | (simp only [List.toList_toArray, wanted_some, wants_t, wants_f, guardTmp, nth_eq, List.getElem?_cons_succ, List.getElem?_cons_zero, ob_some, tget_hit, tget_miss, ne_eq, Nat.reduceEqDiff, not_false_eq_true, Bool.not_true, Bool.not_false]))
    · simp only [↓ob_some, ↓bc_true, ↓bc_false, ↓after_val, ↓orE_some, runOps_cons, runOps_nil, wanted_none, ob_some, bc_true, bc_false, x_move, x_assign, x_pick, asB_bool, ev_int, ev_bool, ev_nils, ev_str, ev_tmp, ret_v, after_val, putT_some, putT_none, fput_fm, tget_hit, tget_miss, ne_eq, Nat.reduceEqDiff, not_false_eq_true, Nat.reduceLT, orE_some, x_binOp, bi_int, bi_lss, bi_leq, bi_gtr, bi_geq, bi_eql, bi_neq, bi_add, x_indexAddr, x_load, asPtr_ptr, x_convert, x_blen, evs_cons, evs_nil] <;> exact rfl
    · (first | exact rput (by decide) | exact putT_none)
    apply AO.call hP hX
    · (first | exact rfl | (simp only [List.toList_toArray, wanted_some, wants_t, wants_f, guardTmp, nth_eq, List.getElem?_cons_succ, List.getElem?_cons_zero, ob_some, tget_hit, tget_miss, ne_eq, Nat.reduceEqDiff, not_false_eq_true, Bool.not_true, Bool.not_false]))
    · simp only [↓ob_some, ↓bc_true, ↓bc_false, ↓after_val, ↓orE_some, runOps_cons, runOps_nil, wanted_none, ob_some, bc_true, bc_false, x_move, x_assign, x_pick, asB_bool, ev_int, ev_bool, ev_nils, ev_str, ev_tmp, ret_v, after_val, putT_some, putT_none, fput_fm, tget_hit, tget_miss, ne_eq, Nat.reduceEqDiff, not_false_eq_true, Nat.reduceLT, orE_some, x_binOp, bi_int, bi_lss, bi_leq, bi_gtr, bi_geq, bi_eql, bi_neq, bi_add, x_indexAddr, x_load, asPtr_ptr, x_convert, x_blen, evs_cons, evs_nil, x_call, ev_func, fnOf_fn, callF_body Tryz.func63 rfl, List.nil_append, List.append_nil] <;> exact rfl
    · exact pre_ok hP hX n
    rintro v h2 ⟨⟨b, rfl⟩, rfl⟩
    refine ⟨_, (by first | exact rput (by decide) | exact putT_none), ?_⟩
    cases b with
    | true =>
      apply AO.op hP hX
      · exact rfl
      · simp only [↓ob_some, ↓bc_true, ↓bc_false, ↓after_val, ↓orE_some, runOps_cons, runOps_nil, wanted_none, ob_some, bc_true, bc_false, x_move, x_assign, x_pick, asB_bool, ev_int, ev_bool, ev_nils, ev_str, ev_tmp, ret_v, after_val, putT_some, putT_none, fput_fm, tget_hit, tget_miss, ne_eq, Nat.reduceEqDiff, not_false_eq_true, Nat.reduceLT, orE_some, x_binOp, bi_int, bi_lss, bi_leq, bi_gtr, bi_geq, bi_eql, bi_neq, bi_add, x_indexAddr, x_load, asPtr_ptr, x_convert, x_blen, evs_cons, evs_nil] <;> exact rfl
      · (first | exact rput (by decide) | exact putT_none)
      apply AO.op hP hX
      · exact rfl
      · simp only [↓ob_some, ↓bc_true, ↓bc_false, ↓after_val, ↓orE_some, runOps_cons, runOps_nil, wanted_none, ob_some, bc_true, bc_false, x_move, x_assign, x_pick, asB_bool, ev_int, ev_bool, ev_nils, ev_str, ev_tmp, ret_v, after_val, putT_some, putT_none, fput_fm, tget_hit, tget_miss, ne_eq, Nat.reduceEqDiff, not_false_eq_true, Nat.reduceLT, orE_some, x_binOp, bi_int, bi_lss, bi_leq, bi_gtr, bi_geq, bi_eql, bi_neq, bi_add, x_indexAddr, x_load, asPtr_ptr, x_convert, x_blen, evs_cons, evs_nil] <;> exact rfl
      · (first | exact rput (by decide) | exact putT_none)
      apply AO.skip
      · (first | exact rfl | (simp only [List.toList_toArray, wanted_some, wants_t, wants_f, guardTmp, nth_eq, List.getElem?_cons_succ, List.getElem?_cons_zero, ob_some, tget_hit, tget_miss, ne_eq, Nat.reduceEqDiff, not_false_eq_true, Bool.not_true, Bool.not_false]))
      · (first | exact rput (by decide) | exact putT_none)
      apply AO.skip
      · (first | exact rfl | (simp only [List.toList_toArray, wanted_some, wants_t, wants_f, guardTmp, nth_eq, List.getElem?_cons_succ, List.getElem?_cons_zero, ob_some, tget_hit, tget_miss, ne_eq, Nat.reduceEqDiff, not_false_eq_true, Bool.not_true, Bool.not_false]))
      · (first | exact rput (by decide) | exact putT_none)
      apply AO.op hP hX
      · exact rfl
      · simp only [↓ob_some, ↓bc_true, ↓bc_false, ↓after_val, ↓orE_some, runOps_cons, runOps_nil, wanted_none, ob_some, bc_true, bc_false, x_move, x_assign, x_pick, asB_bool, ev_int, ev_bool, ev_nils, ev_str, ev_tmp, ret_v, after_val, putT_some, putT_none, fput_fm, tget_hit, tget_miss, ne_eq, Nat.reduceEqDiff, not_false_eq_true, Nat.reduceLT, orE_some, x_binOp, bi_int, bi_lss, bi_leq, bi_gtr, bi_geq, bi_eql, bi_neq, bi_add, x_indexAddr, x_load, asPtr_ptr, x_convert, x_blen, evs_cons, evs_nil] <;> exact rfl
      · (first | exact rput (by decide) | exact putT_none)
      apply AO.op hP hX
      · exact rfl
      · simp only [↓ob_some, ↓bc_true, ↓bc_false, ↓after_val, ↓orE_some, runOps_cons, runOps_nil, wanted_none, ob_some, bc_true, bc_false, x_move, x_assign, x_pick, asB_bool, ev_int, ev_bool, ev_nils, ev_str, ev_tmp, ret_v, after_val, putT_some, putT_none, fput_fm, tget_hit, tget_miss, ne_eq, Nat.reduceEqDiff, not_false_eq_true, Nat.reduceLT, orE_some, x_binOp, bi_int, bi_lss, bi_leq, bi_gtr, bi_geq, bi_eql, bi_neq, bi_add, x_indexAddr, x_load, asPtr_ptr, x_convert, x_blen, evs_cons, evs_nil] <;> exact rfl
      · (first | exact rput (by decide) | exact putT_none)
      apply AO.skip
      · (first | exact rfl | (simp only [List.toList_toArray, wanted_some, wants_t, wants_f, guardTmp, nth_eq, List.getElem?_cons_succ, List.getElem?_cons_zero, ob_some, tget_hit, tget_miss, ne_eq, Nat.reduceEqDiff, not_false_eq_true, Bool.not_true, Bool.not_false]))
      · (first | exact rput (by decide) | exact putT_none)
      apply AO.skip
      · (first | exact rfl | (simp only [List.toList_toArray, wanted_some, wants_t, wants_f, guardTmp, nth_eq, List.getElem?_cons_succ, List.getElem?_cons_zero, ob_some, tget_hit, tget_miss, ne_eq, Nat.reduceEqDiff, not_false_eq_true, Bool.not_true, Bool.not_false]))
      · (first | exact rput (by decide) | exact putT_none)
      apply AO.skip
      · (first | exact rfl | (simp only [List.toList_toArray, wanted_some, wants_t, wants_f, guardTmp, nth_eq, List.getElem?_cons_succ, List.getElem?_cons_zero, ob_some, tget_hit, tget_miss, ne_eq, Nat.reduceEqDiff, not_false_eq_true, Bool.not_true, Bool.not_false]))
      · (first | exact rput (by decide) | exact putT_none)
      apply AO.op hP hX
      · exact rfl
      · simp only [↓ob_some, ↓bc_true, ↓bc_false, ↓after_val, ↓orE_some, runOps_cons, runOps_nil, wanted_none, ob_some, bc_true, bc_false, x_move, x_assign, x_pick, asB_bool, ev_int, ev_bool, ev_nils, ev_str, ev_tmp, ret_v, after_val, putT_some, putT_none, fput_fm, tget_hit, tget_miss, ne_eq, Nat.reduceEqDiff, not_false_eq_true, Nat.reduceLT, orE_some, x_binOp, bi_int, bi_lss, bi_leq, bi_gtr, bi_geq, bi_eql, bi_neq, bi_add, x_indexAddr, x_load, asPtr_ptr, x_convert, x_blen, evs_cons, evs_nil] <;> exact rfl
      · (first | exact rput (by decide) | exact putT_none)
      apply AO.nil
      exact ⟨rfl, tget_hit .., rfl⟩
    | false =>
      apply AO.op hP hX
      · exact rfl
      · simp only [↓ob_some, ↓bc_true, ↓bc_false, ↓after_val, ↓orE_some, runOps_cons, runOps_nil, wanted_none, ob_some, bc_true, bc_false, x_move, x_assign, x_pick, asB_bool, ev_int, ev_bool, ev_nils, ev_str, ev_tmp, ret_v, after_val, putT_some, putT_none, fput_fm, tget_hit, tget_miss, ne_eq, Nat.reduceEqDiff, not_false_eq_true, Nat.reduceLT, orE_some, x_binOp, bi_int, bi_lss, bi_leq, bi_gtr, bi_geq, bi_eql, bi_neq, bi_add, x_indexAddr, x_load, asPtr_ptr, x_convert, x_blen, evs_cons, evs_nil] <;> exact rfl
      · (first | exact rput (by decide) | exact putT_none)
      apply AO.op hP hX
      · exact rfl
      · simp only [↓ob_some, ↓bc_true, ↓bc_false, ↓after_val, ↓orE_some, runOps_cons, runOps_nil, wanted_none, ob_some, bc_true, bc_false, x_move, x_assign, x_pick, asB_bool, ev_int, ev_bool, ev_nils, ev_str, ev_tmp, ret_v, after_val, putT_some, putT_none, fput_fm, tget_hit, tget_miss, ne_eq, Nat.reduceEqDiff, not_false_eq_true, Nat.reduceLT, orE_some, x_binOp, bi_int, bi_lss, bi_leq, bi_gtr, bi_geq, bi_eql, bi_neq, bi_add, x_indexAddr, x_load, asPtr_ptr, x_convert, x_blen, evs_cons, evs_nil] <;> exact rfl
      · (first | exact rput (by decide) | exact putT_none)
      apply AO.op hP hX
      · (first | exact rfl | (simp only [List.toList_toArray, wanted_some, wants_t, wants_f, guardTmp, nth_eq, List.getElem?_cons_succ, List.getElem?_cons_zero, ob_some, tget_hit, tget_miss, ne_eq, Nat.reduceEqDiff, not_false_eq_true, Bool.not_true, Bool.not_false]))
      · simp only [↓ob_some, ↓bc_true, ↓bc_false, ↓after_val, ↓orE_some, runOps_cons, runOps_nil, wanted_none, ob_some, bc_true, bc_false, x_move, x_assign, x_pick, asB_bool, ev_int, ev_bool, ev_nils, ev_str, ev_tmp, ret_v, after_val, putT_some, putT_none, fput_fm, tget_hit, tget_miss, ne_eq, Nat.reduceEqDiff, not_false_eq_true, Nat.reduceLT, orE_some, x_binOp, bi_int, bi_lss, bi_leq, bi_gtr, bi_geq, bi_eql, bi_neq, bi_add, x_indexAddr, x_load, asPtr_ptr, x_convert, x_blen, evs_cons, evs_nil] <;> exact rfl
      · (first | exact rput (by decide) | exact putT_none)
      apply AO.call hP hX
      · (first | exact rfl | (simp only [List.toList_toArray, wanted_some, wants_t, wants_f, guardTmp, nth_eq, List.getElem?_cons_succ, List.getElem?_cons_zero, ob_some, tget_hit, tget_miss, ne_eq, Nat.reduceEqDiff, not_false_eq_true, Bool.not_true, Bool.not_false]))
      · simp only [↓ob_some, ↓bc_true, ↓bc_false, ↓after_val, ↓orE_some, runOps_cons, runOps_nil, wanted_none, ob_some, bc_true, bc_false, x_move, x_assign, x_pick, asB_bool, ev_int, ev_bool, ev_nils, ev_str, ev_tmp, ret_v, after_val, putT_some, putT_none, fput_fm, tget_hit, tget_miss, ne_eq, Nat.reduceEqDiff, not_false_eq_true, Nat.reduceLT, orE_some, x_binOp, bi_int, bi_lss, bi_leq, bi_gtr, bi_geq, bi_eql, bi_neq, bi_add, x_indexAddr, x_load, asPtr_ptr, x_convert, x_blen, evs_cons, evs_nil, x_call, ev_func, fnOf_fn, callF_body Tryz.func64 rfl, List.nil_append, List.append_nil] <;> exact rfl
      · exact suf_ok hP hX n hn
      rintro v h2 ⟨rfl, rfl⟩
      refine ⟨_, (by first | exact rput (by decide) | exact putT_none), ?_⟩
      apply AO.op hP hX
      · exact rfl
      · simp only [↓ob_some, ↓bc_true, ↓bc_false, ↓after_val, ↓orE_some, runOps_cons, runOps_nil, wanted_none, ob_some, bc_true, bc_false, x_move, x_assign, x_pick, asB_bool, ev_int, ev_bool, ev_nils, ev_str, ev_tmp, ret_v, after_val, putT_some, putT_none, fput_fm, tget_hit, tget_miss, ne_eq, Nat.reduceEqDiff, not_false_eq_true, Nat.reduceLT, orE_some, x_binOp, bi_int, bi_lss, bi_leq, bi_gtr, bi_geq, bi_eql, bi_neq, bi_add, x_indexAddr, x_load, asPtr_ptr, x_convert, x_blen, evs_cons, evs_nil] <;> exact rfl
      · (first | exact rput (by decide) | exact putT_none)
      apply AO.op hP hX
      · exact rfl
      · simp only [↓ob_some, ↓bc_true, ↓bc_false, ↓after_val, ↓orE_some, runOps_cons, runOps_nil, wanted_none, ob_some, bc_true, bc_false, x_move, x_assign, x_pick, asB_bool, ev_int, ev_bool, ev_nils, ev_str, ev_tmp, ret_v, after_val, putT_some, putT_none, fput_fm, tget_hit, tget_miss, ne_eq, Nat.reduceEqDiff, not_false_eq_true, Nat.reduceLT, orE_some, x_binOp, bi_int, bi_lss, bi_leq, bi_gtr, bi_geq, bi_eql, bi_neq, bi_add, x_indexAddr, x_load, asPtr_ptr, x_convert, x_blen, evs_cons, evs_nil] <;> exact rfl
      · (first | exact rput (by decide) | exact putT_none)
      apply AO.skip
      · (first | exact rfl | (simp only [List.toList_toArray, wanted_some, wants_t, wants_f, guardTmp, nth_eq, List.getElem?_cons_succ, List.getElem?_cons_zero, ob_some, tget_hit, tget_miss, ne_eq, Nat.reduceEqDiff, not_false_eq_true, Bool.not_true, Bool.not_false]))
      · (first | exact rput (by decide) | exact putT_none)
      apply AO.skip
      · (first | exact rfl | (simp only [List.toList_toArray, wanted_some, wants_t, wants_f, guardTmp, nth_eq, List.getElem?_cons_succ, List.getElem?_cons_zero, ob_some, tget_hit, tget_miss, ne_eq, Nat.reduceEqDiff, not_false_eq_true, Bool.not_true, Bool.not_false]))
      · (first | exact rput (by decide) | exact putT_none)
      apply AO.skip
      · (first | exact rfl | (simp only [List.toList_toArray, wanted_some, wants_t, wants_f, guardTmp, nth_eq, List.getElem?_cons_succ, List.getElem?_cons_zero, ob_some, tget_hit, tget_miss, ne_eq, Nat.reduceEqDiff, not_false_eq_true, Bool.not_true, Bool.not_false]))
      · (first | exact rput (by decide) | exact putT_none)
      apply AO.op hP hX
      · exact rfl
      · simp only [↓ob_some, ↓bc_true, ↓bc_false, ↓after_val, ↓orE_some, runOps_cons, runOps_nil, wanted_none, ob_some, bc_true, bc_false, x_move, x_assign, x_pick, asB_bool, ev_int, ev_bool, ev_nils, ev_str, ev_tmp, ret_v, after_val, putT_some, putT_none, fput_fm, tget_hit, tget_miss, ne_eq, Nat.reduceEqDiff, not_false_eq_true, Nat.reduceLT, orE_some, x_binOp, bi_int, bi_lss, bi_leq, bi_gtr, bi_geq, bi_eql, bi_neq, bi_add, x_indexAddr, x_load, asPtr_ptr, x_convert, x_blen, evs_cons, evs_nil] <;> exact rfl
      · (first | exact rput (by decide) | exact putT_none)
      apply AO.nil
      exact ⟨rfl, tget_hit .., rfl⟩
  · rintro ρ' h' ⟨rfl, ht, hn35⟩
    refine AC.weak (ρ0 := fm 35 [(20, .bool true)]) ?_ (FSub.fm hn35 (by simp [ht])) (Sub.refl _)
    apply AC.cond (t := true)
    · simp only [ev_tmp, tget_hit]
    apply AC.reg hP hX call0_ok
    · repeat (first | (apply rstep; (· exact rfl); (· (simp only [↓ob_some, ↓bc_true, ↓bc_false, ↓after_val, ↓orE_some, runOps_cons, runOps_nil, wanted_none, ob_some, bc_true, bc_false, x_move, x_assign, x_pick, asB_bool, ev_int, ev_bool, ev_nils, ev_str, ev_tmp, ret_v, after_val, putT_some, putT_none, fput_fm, tget_hit, tget_miss, ne_eq, Nat.reduceEqDiff, not_false_eq_true, Nat.reduceLT, orE_some, x_binOp, bi_int, bi_lss, bi_leq, bi_gtr, bi_geq, bi_eql, bi_neq, bi_add, x_indexAddr, x_load, asPtr_ptr, x_convert, x_blen, evs_cons, evs_nil] <;> exact rfl)); (· (first | exact rput (by decide) | exact putT_none))))
      exact rfl
    exact AC.ret ⟨rfl, _, res1 (t := 2) rfl (tget_hit ..), rfl, rfl⟩

/-! Fill -/
def fb (n : Int) (i : Nat) : Int := (Int.fdiv n ((2 ^ (8 * (i % 4)) : Nat) : Int) % 256 + (i : Int) % 256) % 256
def fills (n : Int) (s : Nat) : List AV := (List.range s).map fun i => .int .u8 (fb n i)
omit [Th] in
theorem fills_succ (n : Int) (s : Nat) : fills n (s + 1) = fills n s ++ [.int .u8 (fb n s)] := by
  unfold fills; rw [List.range_succ, List.map_append]; rfl
omit [Th] in
theorem fills_length (n : Int) (s : Nat) : (fills n s).length = s := by simp [fills]

theorem fill_ok (hP : POk Tryz.prog) (hX : XOk Tryz.prog X) (n S : Int) (L : Nat) (hL1 : L ≤ 300) (hL2 : ∀ i : Nat, i ≤ L → (((i : Int) < S ∧ S ≤ 300) ↔ i < L)) :
    ACall Tryz.prog 12 [.int .i64 n, .int .i64 S] h fun v h' => Own h' v (fills n L) ∧ h.next ≤ h'.next ∧ ∀ b, b < h.next → h'.get b = h.get b := by
  refine ACall.body Tryz.func12 rfl (ρ := fm 29 [(1, .int .i64 S), (0, .int .i64 n)]) (entry2 Tryz.ntmps12 (by decide)) ?_
  apply AC.reg hP hX call0_ok
  · repeat (first | (apply rstep; (· exact rfl); (· (simp only [↓ob_some, ↓bc_true, ↓bc_false, ↓after_val, ↓orE_some, runOps_cons, runOps_nil, wanted_none, ob_some, bc_true, bc_false, x_move, x_assign, x_pick, asB_bool, ev_int, ev_bool, ev_nils, ev_str, ev_tmp, ret_v, after_val, putT_some, putT_none, fput_fm, tget_hit, tget_miss, ne_eq, Nat.reduceEqDiff, not_false_eq_true, Nat.reduceLT, orE_some, x_binOp, bi_int, bi_lss, bi_leq, bi_gtr, bi_geq, bi_eql, bi_neq, bi_add, x_indexAddr, x_load, asPtr_ptr, x_convert, x_blen, evs_cons, evs_nil] <;> exact rfl)); (· (first | exact rput (by decide) | exact putT_none))))
    exact rfl
  apply AC.reg hP hX call0_ok
  · repeat (first | (apply rstep; (· exact rfl); (· (simp only [↓ob_some, ↓bc_true, ↓bc_false, ↓after_val, ↓orE_some, runOps_cons, runOps_nil, wanted_none, ob_some, bc_true, bc_false, x_move, x_assign, x_pick, asB_bool, ev_int, ev_bool, ev_nils, ev_str, ev_tmp, ret_v, after_val, putT_some, putT_none, fput_fm, tget_hit, tget_miss, ne_eq, Nat.reduceEqDiff, not_false_eq_true, Nat.reduceLT, orE_some, x_binOp, bi_int, bi_lss, bi_leq, bi_gtr, bi_geq, bi_eql, bi_neq, bi_add, x_indexAddr, x_load, asPtr_ptr, x_convert, x_blen, evs_cons, evs_nil] <;> exact rfl)); (· (first | exact rput (by decide) | exact putT_none))))
    exact rfl
  refine AC.seqM (fun ρ' h' => ∃ wv, FSub (fm 29 [(5, wv), (1, .int .i64 S), (0, .int .i64 n)]) ρ' ∧ Own h' wv (fills n L) ∧ h.next ≤ h'.next ∧ ∀ b, b < h.next → h'.get b = h.get b) ?_ ?_
  · 
    apply AC.reg hP hX call0_ok
    · repeat (first | (apply rstep; (· exact rfl); (· (simp only [↓ob_some, ↓bc_true, ↓bc_false, ↓after_val, ↓orE_some, runOps_cons, runOps_nil, wanted_none, ob_some, bc_true, bc_false, x_move, x_assign, x_pick, asB_bool, ev_int, ev_bool, ev_nils, ev_str, ev_tmp, ret_v, after_val, putT_some, putT_none, fput_fm, tget_hit, tget_miss, ne_eq, Nat.reduceEqDiff, not_false_eq_true, Nat.reduceLT, orE_some, x_binOp, bi_int, bi_lss, bi_leq, bi_gtr, bi_geq, bi_eql, bi_neq, bi_add, x_indexAddr, x_load, asPtr_ptr, x_convert, x_blen, evs_cons, evs_nil] <;> exact rfl)); (· (first | exact rput (by decide) | exact putT_none))))
      exact rfl
    apply AC.block
    refine (AC.loopM (fun m ρ h2 => ∃ i, i + m = L ∧ ∃ wv, ρ = fm 29 [(6, .int .i64 (i : Int)), (5, wv), (1, .int .i64 S), (0, .int .i64 n)] ∧ Own h2 wv (fills n i) ∧ h.next ≤ h2.next ∧ (∀ b, b < h.next → h2.get b = h.get b) ∧ ∀ b k c es ex, wv = .sl b 0 k c es ex → h.next ≤ b) ?_ L _ _ ⟨0, by omega, .nils, rfl, .inl ⟨rfl, rfl⟩, Nat.le_refl _, fun _ _ => rfl, fun _ _ _ _ _ e => by cases e⟩).weak (FSub.fm rfl ?_) (Sub.refl _)
    rotate_left
    · simp [tget_cons]
    rintro m ρ h2 ⟨i, him, wv, rfl, how, hnx, hold, hnew⟩
    by_cases hi : i < L
    · have hc := (hL2 i (by omega)).2 hi
      apply AC.seq
      apply AC.reg hP hX call0_ok
      · repeat (first | (apply rstep; (· (first | exact rfl | (simp only [List.toList_toArray, wanted_some, wants_t, wants_f, guardTmp, nth_eq, List.getElem?_cons_succ, List.getElem?_cons_zero, ob_some, tget_hit, tget_miss, ne_eq, Nat.reduceEqDiff, not_false_eq_true, Bool.not_true, Bool.not_false, decide_eq_true hc.1, decide_eq_true hc.2]))); (· (simp only [↓ob_some, ↓bc_true, ↓bc_false, ↓after_val, ↓orE_some, runOps_cons, runOps_nil, wanted_none, ob_some, bc_true, bc_false, x_move, x_assign, x_pick, asB_bool, ev_int, ev_bool, ev_nils, ev_str, ev_tmp, ret_v, after_val, putT_some, putT_none, fput_fm, tget_hit, tget_miss, ne_eq, Nat.reduceEqDiff, not_false_eq_true, Nat.reduceLT, orE_some, x_binOp, bi_int, bi_lss, bi_leq, bi_gtr, bi_geq, bi_eql, bi_neq, bi_add, x_indexAddr, x_load, asPtr_ptr, x_convert, x_blen, evs_cons, evs_nil, decide_eq_true hc.1, decide_eq_true hc.2] <;> exact rfl)); (· (first | exact rput (by decide) | exact putT_none))) | (apply rskip; (· (first | exact rfl | (simp only [List.toList_toArray, wanted_some, wants_t, wants_f, guardTmp, nth_eq, List.getElem?_cons_succ, List.getElem?_cons_zero, ob_some, tget_hit, tget_miss, ne_eq, Nat.reduceEqDiff, not_false_eq_true, Bool.not_true, Bool.not_false, decide_eq_true hc.1, decide_eq_true hc.2]))); (· (first | exact rput (by decide) | exact putT_none))))
        exact rfl
      apply AC.next1
      · simp only [ev_tmp, tget_hit]
      show AC _ _ _ _ _
      have hi1 : IntKind.i64.wrap ((i : Int) + 1) = ((i + 1 : Nat) : Int) := wrap_fit (n := i + 1) (show i + 1 < 9223372036854775808 by omega)
      have hrem : intBin .rem .i64 (i : Int) .i64 4 = some (.int .i64 ((i % 4 : Nat) : Int)) := by
        rw [bi_rem (by decide)]; rfl
      have hmul : intBin .mul .i64 8 .i64 ((i % 4 : Nat) : Int) = some (.int .i64 ((8 * (i % 4) : Nat) : Int)) := by
        rw [bi_mul, show (8 : Int) * ((i % 4 : Nat) : Int) = ((8 * (i % 4) : Nat) : Int) by omega, wrap_fit (show 8 * (i % 4) < 9223372036854775808 by omega)]
      have hshr : intBin .shr .i64 n .i64 ((8 * (i % 4) : Nat) : Int) = some (.int .i64 (Int.fdiv n ((2 ^ (8 * (i % 4)) : Nat) : Int))) := by
        show ob (shN .i64 ((8 * (i % 4) : Nat) : Int)) (fun m => some (shr .i64 n m)) = _
        have h1 : shN .i64 ((8 * (i % 4) : Nat) : Int) = some (8 * (i % 4)) := by
          show some (minN (8 * (i % 4)) 64) = _
          unfold minN; rw [ble_t.2 (by omega)]; rfl
        rw [h1, ob_some]; rfl
      obtain ⟨s', h3, e1, e2, e3, e4, e5⟩ := append1 (P := Tryz.prog) (h := h2.new (.cells [.int .u8 (fb n i)] true)) (s := wv) (v := .int .u8 (fb n i)) (l := fills n i) (q := h2.next) (st := 35) (xt := 35)
        (how.turn (by rw [H.next_new]; omega) (fun b hb => by rw [H.get_new, if_neg (by omega)])) te22 u22 ei5 rfl (by rw [H.get_new, if_pos rfl]) (by rw [H.next_new]; omega) (by rw [fills_length]; omega)
        (fun b e => by
          rcases how with ⟨rfl, _⟩ | ⟨b', rfl, _, hlt⟩
          · cases e
          · cases e; omega)
      unfold fb at e1
      rw [H.next_new] at e3 e4 e5
      refine AC.seqM (fun ρ' h4 => h4 = h3 ∧ FSub (fm 29 [(6, .int .i64 (i : Int)), (5, s'), (1, .int .i64 S), (0, .int .i64 n)]) ρ') ?_ ?_
      · apply AC.block
        apply AC.reg1 hP hX call0_ok
        · repeat (first | (apply rstep; (· exact rfl); (· (simp only [↓ob_some, ↓bc_true, ↓bc_false, ↓after_val, ↓orE_some, runOps_cons, runOps_nil, wanted_none, ob_some, bc_true, bc_false, x_move, x_assign, x_pick, asB_bool, ev_int, ev_bool, ev_nils, ev_str, ev_tmp, ret_v, after_val, putT_some, putT_none, fput_fm, tget_hit, tget_miss, ne_eq, Nat.reduceEqDiff, not_false_eq_true, Nat.reduceLT, orE_some, x_binOp, bi_int, bi_lss, bi_leq, bi_gtr, bi_geq, bi_eql, bi_neq, bi_add, x_indexAddr, x_load, asPtr_ptr, x_convert, x_blen, evs_cons, evs_nil, u22, u3, u23, u5, cv_int i64I, hrem, hmul, hshr, wrap_u8_int, build1 te22 ei5, fill1_int, x_bappend, xa2, e1] <;> exact rfl)); (· (first | exact rput (by decide) | exact putT_none))))
          exact rfl
        exact ⟨rfl, FSub.fm rfl (by simp [tget_cons])⟩
      · rintro ρ' h4 ⟨rfl, u⟩
        refine AC.weak ?_ u (Sub.refl _)
        apply AC.reg1 hP hX call0_ok
        · repeat (first | (apply rstep; (· exact rfl); (· (simp only [↓ob_some, ↓bc_true, ↓bc_false, ↓after_val, ↓orE_some, runOps_cons, runOps_nil, wanted_none, ob_some, bc_true, bc_false, x_move, x_assign, x_pick, asB_bool, ev_int, ev_bool, ev_nils, ev_str, ev_tmp, ret_v, after_val, putT_some, putT_none, fput_fm, tget_hit, tget_miss, ne_eq, Nat.reduceEqDiff, not_false_eq_true, Nat.reduceLT, orE_some, x_binOp, bi_int, bi_lss, bi_leq, bi_gtr, bi_geq, bi_eql, bi_neq, bi_add, x_indexAddr, x_load, asPtr_ptr, x_convert, x_blen, evs_cons, evs_nil, hi1] <;> exact rfl)); (· (first | exact rput (by decide) | exact putT_none))))
          exact rfl
        refine ⟨m - 1, _, _, by omega, ⟨i + 1, by omega, s', rfl, by rw [fills_succ]; exact e2, by omega, fun b hb => ?_, fun b k c es ex e => by have := e5 b k c es ex e; omega⟩, FSub.fm rfl (by simp [tget_cons]), Sub.refl _⟩
        rw [e4 b (by omega) (fun b' e => by have := hnew b' _ _ _ _ e; omega), H.get_new, if_neg (by omega)]
        exact hold b hb
    · have : i = L := by omega
      subst this
      have hc : ¬ ((i : Int) < S ∧ S ≤ 300) := fun e => hi ((hL2 i (by omega)).1 e)
      by_cases h1 : (i : Int) < S
      · have h2' : ¬ S ≤ 300 := fun e => hc ⟨h1, e⟩
        apply AC.seq
        apply AC.reg hP hX call0_ok
        · repeat (first | (apply rstep; (· (first | exact rfl | (simp only [List.toList_toArray, wanted_some, wants_t, wants_f, guardTmp, nth_eq, List.getElem?_cons_succ, List.getElem?_cons_zero, ob_some, tget_hit, tget_miss, ne_eq, Nat.reduceEqDiff, not_false_eq_true, Bool.not_true, Bool.not_false, decide_eq_true h1, decide_eq_false h2']))); (· (simp only [↓ob_some, ↓bc_true, ↓bc_false, ↓after_val, ↓orE_some, runOps_cons, runOps_nil, wanted_none, ob_some, bc_true, bc_false, x_move, x_assign, x_pick, asB_bool, ev_int, ev_bool, ev_nils, ev_str, ev_tmp, ret_v, after_val, putT_some, putT_none, fput_fm, tget_hit, tget_miss, ne_eq, Nat.reduceEqDiff, not_false_eq_true, Nat.reduceLT, orE_some, x_binOp, bi_int, bi_lss, bi_leq, bi_gtr, bi_geq, bi_eql, bi_neq, bi_add, x_indexAddr, x_load, asPtr_ptr, x_convert, x_blen, evs_cons, evs_nil, decide_eq_true h1, decide_eq_false h2'] <;> exact rfl)); (· (first | exact rput (by decide) | exact putT_none))) | (apply rskip; (· (first | exact rfl | (simp only [List.toList_toArray, wanted_some, wants_t, wants_f, guardTmp, nth_eq, List.getElem?_cons_succ, List.getElem?_cons_zero, ob_some, tget_hit, tget_miss, ne_eq, Nat.reduceEqDiff, not_false_eq_true, Bool.not_true, Bool.not_false, decide_eq_true h1, decide_eq_false h2']))); (· (first | exact rput (by decide) | exact putT_none))))
          exact rfl
        apply AC.leave1
        · simp only [ev_tmp, tget_hit]
        exact ⟨wv, FSub.fm rfl (by simp [tget_cons]), how, hnx, hold⟩
      · apply AC.seq
        apply AC.reg hP hX call0_ok
        · repeat (first | (apply rstep; (· (first | exact rfl | (simp only [List.toList_toArray, wanted_some, wants_t, wants_f, guardTmp, nth_eq, List.getElem?_cons_succ, List.getElem?_cons_zero, ob_some, tget_hit, tget_miss, ne_eq, Nat.reduceEqDiff, not_false_eq_true, Bool.not_true, Bool.not_false, decide_eq_false h1]))); (· (simp only [↓ob_some, ↓bc_true, ↓bc_false, ↓after_val, ↓orE_some, runOps_cons, runOps_nil, wanted_none, ob_some, bc_true, bc_false, x_move, x_assign, x_pick, asB_bool, ev_int, ev_bool, ev_nils, ev_str, ev_tmp, ret_v, after_val, putT_some, putT_none, fput_fm, tget_hit, tget_miss, ne_eq, Nat.reduceEqDiff, not_false_eq_true, Nat.reduceLT, orE_some, x_binOp, bi_int, bi_lss, bi_leq, bi_gtr, bi_geq, bi_eql, bi_neq, bi_add, x_indexAddr, x_load, asPtr_ptr, x_convert, x_blen, evs_cons, evs_nil, decide_eq_false h1] <;> exact rfl)); (· (first | exact rput (by decide) | exact putT_none))) | (apply rskip; (· (first | exact rfl | (simp only [List.toList_toArray, wanted_some, wants_t, wants_f, guardTmp, nth_eq, List.getElem?_cons_succ, List.getElem?_cons_zero, ob_some, tget_hit, tget_miss, ne_eq, Nat.reduceEqDiff, not_false_eq_true, Bool.not_true, Bool.not_false, decide_eq_false h1]))); (· (first | exact rput (by decide) | exact putT_none))))
          exact rfl
        apply AC.leave1
        · simp only [ev_tmp, tget_hit]
        exact ⟨wv, FSub.fm rfl (by simp [tget_cons]), how, hnx, hold⟩
  rintro ρ' h' ⟨wv, u, how, hnx, hold⟩
  refine AC.weak ?_ u (Sub.refl _)
  apply AC.reg hP hX call0_ok
  · repeat (first | (apply rstep; (· exact rfl); (· (simp only [↓ob_some, ↓bc_true, ↓bc_false, ↓after_val, ↓orE_some, runOps_cons, runOps_nil, wanted_none, ob_some, bc_true, bc_false, x_move, x_assign, x_pick, asB_bool, ev_int, ev_bool, ev_nils, ev_str, ev_tmp, ret_v, after_val, putT_some, putT_none, fput_fm, tget_hit, tget_miss, ne_eq, Nat.reduceEqDiff, not_false_eq_true, Nat.reduceLT, orE_some, x_binOp, bi_int, bi_lss, bi_leq, bi_gtr, bi_geq, bi_eql, bi_neq, bi_add, x_indexAddr, x_load, asPtr_ptr, x_convert, x_blen, evs_cons, evs_nil] <;> exact rfl)); (· (first | exact rput (by decide) | exact putT_none))))
    exact rfl
  exact AC.ret ⟨rfl, _, res1 (t := 4) rfl (tget_hit ..), how, hnx, hold⟩
end Go.Ab.T
