/- The walk of slices.Equal over bytes. -/
import Derived.Test.YtleafkdgnlngmaaGreatDoorSiStep
set_option linter.unusedSimpArgs false
set_option linter.unusedVariables false
namespace Go.Ab.T
open Go Go.Ab Go.Proofs
variable [Th] {X : Ext} {h : H}
theorem equal_ok (hP : POk Tryz.prog) (hX : XOk Tryz.prog X) {a b : AV} {xs ys : List Nat} (ha : SlAt h a 1 (u8s xs)) (hb : SlAt h b 1 (u8s ys)) (hl : xs.length < 2^62) :
    ACall Tryz.prog 169 [a, b] h fun v h' => v = .bool (decide (xs = ys)) ∧ h.next ≤ h'.next ∧ ∀ c, h'.get c = h.get c := by
  obtain ⟨na, hna, hla⟩ := ha.len
  obtain ⟨nb, hnb, hlb⟩ := hb.len
  have hsa := ha.noStr
  have hsb := hb.noStr
  have hxa : na = xs.length := by simpa [u8s] using hla.symm
  have hyb : nb = ys.length := by simpa [u8s] using hlb.symm
  refine ACall.body Tryz.func169 rfl (ρ := fm 26 [(1, b), (0, a)]) (entry2 Tryz.ntmps169 (by decide)) ?_
  apply AC.reg hP hX call0_ok
  · repeat (first | (apply rstep; (· exact rfl); (· (simp only [↓ob_some, ↓bc_true, ↓bc_false, ↓after_val, ↓orE_some, runOps_cons, runOps_nil, wanted_none, ob_some, bc_true, bc_false, x_move, x_assign, x_pick, asB_bool, ev_int, ev_bool, ev_nils, ev_str, ev_tmp, ret_v, after_val, putT_some, putT_none, fput_fm, tget_hit, tget_miss, ne_eq, Nat.reduceEqDiff, not_false_eq_true, Nat.reduceLT, orE_some, x_binOp, bi_int, bi_lss, bi_leq, bi_gtr, bi_geq, bi_eql, bi_neq, bi_add, x_indexAddr, x_load, asPtr_ptr, x_convert, x_blen, evs_cons, evs_nil] <;> exact rfl)); (· (first | exact rput (by decide) | exact putT_none))))
    exact rfl
  by_cases hlen : na = nb
  rotate_left
  · refine AC.seqM (fun _ _ => False) ?_ (fun _ _ e => e.elim)
    apply AC.reg hP hX call0_ok
    · repeat (first | (apply rstep; (· exact rfl); (· (simp only [↓ob_some, ↓bc_true, ↓bc_false, ↓after_val, ↓orE_some, runOps_cons, runOps_nil, wanted_none, ob_some, bc_true, bc_false, x_move, x_assign, x_pick, asB_bool, ev_int, ev_bool, ev_nils, ev_str, ev_tmp, ret_v, after_val, putT_some, putT_none, fput_fm, tget_hit, tget_miss, ne_eq, Nat.reduceEqDiff, not_false_eq_true, Nat.reduceLT, orE_some, x_binOp, bi_int, bi_lss, bi_leq, bi_gtr, bi_geq, bi_eql, bi_neq, bi_add, x_indexAddr, x_load, asPtr_ptr, x_convert, x_blen, evs_cons, evs_nil, len_slice u22 hna hsa, len_slice u22 hnb hsb, decide_eq_false (show ¬ (na : Int) = (nb : Int) by omega), Bool.not_false] <;> exact rfl)); (· (first | exact rput (by decide) | exact putT_none))))
      exact rfl
    apply AC.cond (t := true)
    · simp only [ev_tmp, tget_hit]
    apply AC.reg hP hX call0_ok
    · repeat (first | (apply rstep; (· exact rfl); (· (simp only [↓ob_some, ↓bc_true, ↓bc_false, ↓after_val, ↓orE_some, runOps_cons, runOps_nil, wanted_none, ob_some, bc_true, bc_false, x_move, x_assign, x_pick, asB_bool, ev_int, ev_bool, ev_nils, ev_str, ev_tmp, ret_v, after_val, putT_some, putT_none, fput_fm, tget_hit, tget_miss, ne_eq, Nat.reduceEqDiff, not_false_eq_true, Nat.reduceLT, orE_some, x_binOp, bi_int, bi_lss, bi_leq, bi_gtr, bi_geq, bi_eql, bi_neq, bi_add, x_indexAddr, x_load, asPtr_ptr, x_convert, x_blen, evs_cons, evs_nil] <;> exact rfl)); (· (first | exact rput (by decide) | exact putT_none))))
      exact rfl
    refine AC.ret ⟨rfl, _, res1 (t := 4) rfl (tget_hit ..), ?_, Nat.le_refl _, fun _ => rfl⟩
    rw [decide_eq_false]
    intro e; subst e; omega
  refine AC.seqM (fun ρ' h' => h' = h ∧ FSub (fm 26 [(1, b), (0, a)]) ρ') ?_ ?_
  · 
    apply AC.reg hP hX call0_ok
    · repeat (first | (apply rstep; (· exact rfl); (· (simp only [↓ob_some, ↓bc_true, ↓bc_false, ↓after_val, ↓orE_some, runOps_cons, runOps_nil, wanted_none, ob_some, bc_true, bc_false, x_move, x_assign, x_pick, asB_bool, ev_int, ev_bool, ev_nils, ev_str, ev_tmp, ret_v, after_val, putT_some, putT_none, fput_fm, tget_hit, tget_miss, ne_eq, Nat.reduceEqDiff, not_false_eq_true, Nat.reduceLT, orE_some, x_binOp, bi_int, bi_lss, bi_leq, bi_gtr, bi_geq, bi_eql, bi_neq, bi_add, x_indexAddr, x_load, asPtr_ptr, x_convert, x_blen, evs_cons, evs_nil, len_slice u22 hna hsa, len_slice u22 hnb hsb, decide_eq_true (show (na : Int) = (nb : Int) by omega), Bool.not_true] <;> exact rfl)); (· (first | exact rput (by decide) | exact putT_none))))
      exact rfl
    apply AC.cond (t := false)
    · simp only [ev_tmp, tget_hit]
    exact AC.skip ⟨rfl, FSub.fm rfl (by simp [tget_cons])⟩
  rintro ρ' h' ⟨rfl, u⟩
  refine AC.weak ?_ u (Sub.refl _)
  apply AC.seq
  apply AC.reg hP hX call0_ok
  · repeat (first | (apply rstep; (· exact rfl); (· (simp only [↓ob_some, ↓bc_true, ↓bc_false, ↓after_val, ↓orE_some, runOps_cons, runOps_nil, wanted_none, ob_some, bc_true, bc_false, x_move, x_assign, x_pick, asB_bool, ev_int, ev_bool, ev_nils, ev_str, ev_tmp, ret_v, after_val, putT_some, putT_none, fput_fm, tget_hit, tget_miss, ne_eq, Nat.reduceEqDiff, not_false_eq_true, Nat.reduceLT, orE_some, x_binOp, bi_int, bi_lss, bi_leq, bi_gtr, bi_geq, bi_eql, bi_neq, bi_add, x_indexAddr, x_load, asPtr_ptr, x_convert, x_blen, evs_cons, evs_nil, len_slice u22 hna hsa] <;> exact rfl)); (· (first | exact rput (by decide) | exact putT_none))))
    exact rfl
  apply AC.block
  refine (AC.loopM (fun m ρ h2 => ∃ i, i + m = na ∧ ρ = fm 26 [(13, .int .i64 (i : Int)), (12, .int .i64 (na : Int)), (1, b), (0, a)] ∧ xs.take i = ys.take i ∧ h'.next ≤ h2.next ∧ ∀ c, h2.get c = h'.get c) ?_ na _ _ ⟨0, by omega, rfl, rfl, Nat.le_refl _, fun _ => rfl⟩).weak (FSub.fm rfl ?_) (Sub.refl _)
  rotate_left
  · simp [tget_cons]
  rintro m ρ h2 ⟨i, him, rfl, htk, hnx, hg⟩
  apply AC.reg hP hX call0_ok
  · repeat (first | (apply rstep; (· exact rfl); (· (simp only [↓ob_some, ↓bc_true, ↓bc_false, ↓after_val, ↓orE_some, runOps_cons, runOps_nil, wanted_none, ob_some, bc_true, bc_false, x_move, x_assign, x_pick, asB_bool, ev_int, ev_bool, ev_nils, ev_str, ev_tmp, ret_v, after_val, putT_some, putT_none, fput_fm, tget_hit, tget_miss, ne_eq, Nat.reduceEqDiff, not_false_eq_true, Nat.reduceLT, orE_some, x_binOp, bi_int, bi_lss, bi_leq, bi_gtr, bi_geq, bi_eql, bi_neq, bi_add, x_indexAddr, x_load, asPtr_ptr, x_convert, x_blen, evs_cons, evs_nil] <;> exact rfl)); (· (first | exact rput (by decide) | exact putT_none))))
    exact rfl
  by_cases hi : i < na
  · apply AC.next
    · simp only [ev_tmp, tget_hit]; rw [decide_eq_true (by omega)]
    have hi1 : IntKind.i64.wrap ((i : Int) + 1) = ((i + 1 : Nat) : Int) := wrap_fit (n := i + 1) (show i + 1 < 9223372036854775808 by omega)
    have hix : i < xs.length := by omega
    have hiy : i < ys.length := by omega
    obtain ⟨ba, oa, na', ca, ea, rfl, hla2, hga⟩ := (ha.turn hg).sl (by intro e; have h0 := congrArg List.length e; rw [List.length_nil] at h0; omega)
    obtain ⟨bb, ob', nb', cb, eb, rfl, hlb2, hgb⟩ := (hb.turn hg).sl (by intro e; have h0 := congrArg List.length e; rw [List.length_nil] at h0; omega)
    have hna' : na' = na := by rw [hla] at hla2; omega
    have hnb' : nb' = nb := by rw [hlb] at hlb2; omega
    have hca := hga i (by omega)
    have hcb := hgb i (by omega)
    rw [u8s_get xs i hix] at hca
    rw [u8s_get ys i hiy] at hcb
    refine AC.seqM (fun ρ' h3 => xs[i] = ys[i] ∧ h2.next ≤ h3.next ∧ (∀ c, h3.get c = h2.get c) ∧ FSub (fm 26 [(13, .int .i64 (i : Int)), (12, .int .i64 (na : Int)), (1, .sl bb ob' nb' cb 1 eb), (0, .sl ba oa na' ca 1 ea)]) ρ') ?_ ?_
    · apply AC.block
      apply AC.reg hP hX call0_ok
      · repeat (first | (apply rstep; (· exact rfl); (· (simp only [↓ob_some, ↓bc_true, ↓bc_false, ↓after_val, ↓orE_some, runOps_cons, runOps_nil, wanted_none, ob_some, bc_true, bc_false, x_move, x_assign, x_pick, asB_bool, ev_int, ev_bool, ev_nils, ev_str, ev_tmp, ret_v, after_val, putT_some, putT_none, fput_fm, tget_hit, tget_miss, ne_eq, Nat.reduceEqDiff, not_false_eq_true, Nat.reduceLT, orE_some, x_binOp, bi_int, bi_lss, bi_leq, bi_gtr, bi_geq, bi_eql, bi_neq, bi_add, x_indexAddr, x_load, asPtr_ptr, x_convert, x_blen, evs_cons, evs_nil] <;> exact rfl)); (· (first | exact rput (by decide) | exact putT_none))))
        exact rfl
      apply AC.readers hP hX call0_ok
      · kernel_rfl
      · repeat (first | (apply rstep; (· exact rfl); (· (simp only [↓ob_some, ↓bc_true, ↓bc_false, ↓after_val, ↓orE_some, runOps_cons, runOps_nil, wanted_none, ob_some, bc_true, bc_false, x_move, x_assign, x_pick, asB_bool, ev_int, ev_bool, ev_nils, ev_str, ev_tmp, ret_v, after_val, putT_some, putT_none, fput_fm, tget_hit, tget_miss, ne_eq, Nat.reduceEqDiff, not_false_eq_true, Nat.reduceLT, orE_some, x_binOp, bi_int, bi_lss, bi_leq, bi_gtr, bi_geq, bi_eql, bi_neq, bi_add, x_indexAddr, x_load, asPtr_ptr, x_convert, x_blen, evs_cons, evs_nil, u22, asIdx_nat, ix_slice ts5 (show i < na' by omega), ix_slice ts5 (show i < nb' by omega), load1 tg5, Nat.mul_one, loadCell_back, hca, hcb] <;> exact rfl)); (· (first | exact rput (by decide) | exact putT_none))))
        exact rfl
      by_cases hxy : xs[i] = ys[i]
      · apply AC.cond (t := false)
        · simp only [ev_tmp, tget_hit]; rw [decide_eq_true (by omega)]; rfl
        exact AC.skip ⟨hxy, by rw [backNext_next]; exact Nat.le_add_right _ _, fun c => backNext_get _ _ _, FSub.fm rfl (by simp [tget_cons])⟩
      · apply AC.cond (t := true)
        · simp only [ev_tmp, tget_hit]; rw [decide_eq_false (by omega)]; rfl
        apply AC.reg hP hX call0_ok
        · repeat (first | (apply rstep; (· exact rfl); (· (simp only [↓ob_some, ↓bc_true, ↓bc_false, ↓after_val, ↓orE_some, runOps_cons, runOps_nil, wanted_none, ob_some, bc_true, bc_false, x_move, x_assign, x_pick, asB_bool, ev_int, ev_bool, ev_nils, ev_str, ev_tmp, ret_v, after_val, putT_some, putT_none, fput_fm, tget_hit, tget_miss, ne_eq, Nat.reduceEqDiff, not_false_eq_true, Nat.reduceLT, orE_some, x_binOp, bi_int, bi_lss, bi_leq, bi_gtr, bi_geq, bi_eql, bi_neq, bi_add, x_indexAddr, x_load, asPtr_ptr, x_convert, x_blen, evs_cons, evs_nil] <;> exact rfl)); (· (first | exact rput (by decide) | exact putT_none))))
          exact rfl
        refine AC.ret ⟨rfl, _, res1 (t := 4) rfl (tget_hit ..), ?_, ?_, fun c => ?_⟩
        · rw [decide_eq_false]
          intro e; subst e; exact hxy rfl
        · rw [backNext_next]; exact Nat.le_trans hnx (Nat.le_add_right _ _)
        · rw [backNext_get]; exact hg c
    · rintro ρ' h3 ⟨hxy, hn3, hg3, u⟩
      refine AC.weak ?_ u (Sub.refl _)
      apply AC.reg1 hP hX call0_ok
      · repeat (first | (apply rstep; (· exact rfl); (· (simp only [↓ob_some, ↓bc_true, ↓bc_false, ↓after_val, ↓orE_some, runOps_cons, runOps_nil, wanted_none, ob_some, bc_true, bc_false, x_move, x_assign, x_pick, asB_bool, ev_int, ev_bool, ev_nils, ev_str, ev_tmp, ret_v, after_val, putT_some, putT_none, fput_fm, tget_hit, tget_miss, ne_eq, Nat.reduceEqDiff, not_false_eq_true, Nat.reduceLT, orE_some, x_binOp, bi_int, bi_lss, bi_leq, bi_gtr, bi_geq, bi_eql, bi_neq, bi_add, x_indexAddr, x_load, asPtr_ptr, x_convert, x_blen, evs_cons, evs_nil, hi1] <;> exact rfl)); (· (first | exact rput (by decide) | exact putT_none))))
        exact rfl
      refine ⟨m - 1, _, _, by omega, ⟨i + 1, by omega, rfl, ?_, by omega, fun c => (hg3 c).trans (hg c)⟩, FSub.fm rfl (by simp [tget_cons]), Sub.refl _⟩
      rw [List.take_succ_eq_append_getElem hix, List.take_succ_eq_append_getElem hiy, htk, hxy]
  · apply AC.leave
    · simp only [ev_tmp, tget_hit]; rw [decide_eq_false (by omega)]
    show AC _ _ _ _ _
    apply AC.reg hP hX call0_ok
    · repeat (first | (apply rstep; (· exact rfl); (· (simp only [↓ob_some, ↓bc_true, ↓bc_false, ↓after_val, ↓orE_some, runOps_cons, runOps_nil, wanted_none, ob_some, bc_true, bc_false, x_move, x_assign, x_pick, asB_bool, ev_int, ev_bool, ev_nils, ev_str, ev_tmp, ret_v, after_val, putT_some, putT_none, fput_fm, tget_hit, tget_miss, ne_eq, Nat.reduceEqDiff, not_false_eq_true, Nat.reduceLT, orE_some, x_binOp, bi_int, bi_lss, bi_leq, bi_gtr, bi_geq, bi_eql, bi_neq, bi_add, x_indexAddr, x_load, asPtr_ptr, x_convert, x_blen, evs_cons, evs_nil] <;> exact rfl)); (· (first | exact rput (by decide) | exact putT_none))))
      exact rfl
    refine AC.ret ⟨rfl, _, res1 (t := 4) rfl (tget_hit ..), ?_, hnx, hg⟩
    rw [decide_eq_true]
    rw [List.take_of_length_le (by omega), List.take_of_length_le (by omega)] at htk
    exact htk

noncomputable def sEqual : Caller := fun _ args h => two args fun a b => ob (bytesOf h a) fun x => ob (bytesOf h b) fun y => bc (Nat.ble x.length 4294967296) (some (.bool (bytesEq x y), h)) none
theorem sEqual_ok (hX : XOk Tryz.prog X) (args : List AV) (h : H) (v : AV) (h' : H) (hg : sEqual 169 args h = some (v, h')) : ACall Tryz.prog 169 args h fun v' h2 => v' = v ∧ h2 = h' := by
  have hg' : two args (fun a b => ob (bytesOf h a) fun x => ob (bytesOf h b) fun y => bc (Nat.ble x.length 4294967296) (some (AV.bool (bytesEq x y), h)) none) = some (v, h') := hg
  unfold two at hg'
  split at hg'
  · rename_i a b
    simp only [ob_eq, bc_none, ble_t, Option.some.injEq, Prod.mk.injEq] at hg'
    obtain ⟨x, hx, y, hy, hlen, rfl, rfl⟩ := hg'
    refine (equal_ok pok hX (SlAt.u8s hx) (SlAt.u8s hy) (by rw [List.length_map]; omega)).gc ?_
    rintro v h' ⟨rfl, _, hget⟩
    refine ⟨fun b _ => hget b, fun β1 β2 cv hv => ?_⟩
    rw [bytesEq_nat]; exact hv
  · cases hg'
end Go.Ab.T
