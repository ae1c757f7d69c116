/- The walk of PlayBlocks: what its functions do. -/
import Derived.Test.YtephgoggipejmaaGreatDoorPbEqual
set_option linter.unusedSimpArgs false
namespace Go.Ab.T
open Go Go.Ab Go.Proofs
/-- the byte of a number at a place -/
def bv (N i : Nat) : Nat := (N / 2 ^ (56 - 8 * (i % 8)) % 256 + i / 8) % 256
def vals (N s : Nat) : List AV := (List.range s).map fun i => .int .u8 (bv N i : Int)
theorem vals_succ (N s : Nat) : vals N (s + 1) = vals N s ++ [.int .u8 (bv N s : Int)] := by
  unfold vals; rw [List.range_succ, List.map_append]; rfl
theorem vals_length (N s : Nat) : (vals N s).length = s := by simp [vals]
theorem vals_get (N s i : Nat) (h : i < s) : (vals N s)[i]? = some (.int .u8 (bv N i : Int)) := by simp [vals, h]

variable [Th] {X : Ext} {h : H}

/-- what stays: all blocks that were there, but for those named -/
def Stay (no : Nat → Prop) (h h' : H) : Prop := h.next ≤ h'.next ∧ ∀ b, b < h.next → ¬ no b → h'.get b = h.get b


/-- what Block hands back -/
def BlockIs (N : Nat) (S : Int) (h : H) (v : AV) (h' : H) : Prop :=
  ((S < 0 ∨ 256 < S) ∧ v = .nils ∧ h' = h) ∨ ∃ s : Nat, S = s ∧ s ≤ 256 ∧ v = .sl h.next 0 s s 1 true ∧ h'.get h.next = some (.cells (vals N s) true) ∧ h'.next = h.next + 1 ∧ ∀ b, b ≠ h.next → h'.get b = h.get b

omit [Th] in
theorem set_vals (N s i : Nat) (hi : i < s) : setRange ((vals N i) ++ List.replicate (s - i) (.int .u8 0)) i [.int .u8 (bv N i : Int)] = some (vals N (i + 1) ++ List.replicate (s - (i + 1)) (.int .u8 0)) := by
  have key : ∀ (l r : List AV) (x y : AV), y.one = true → setRange (l ++ x :: r) l.length [y] = some (l ++ y :: r) := by
    intro l
    induction l with
    | nil =>
      intro r x y hy
      show bc y.one (ob (some r) fun r => some (y :: r)) none = _
      rw [hy]; rfl
    | cons a l ih =>
      intro r x y hy
      show ob (setRange (l ++ x :: r) l.length [y]) (fun r => some (a :: r)) = _
      rw [ih r x y hy]; rfl
  have h1 : s - i = (s - (i + 1)) + 1 := by omega
  have := key (vals N i) (List.replicate (s - (i + 1)) (.int .u8 0)) (.int .u8 0) (.int .u8 (bv N i : Int)) rfl
  rw [vals_length] at this
  rw [h1, List.replicate_succ, this, vals_succ]; simp

theorem block_ok (hP : POk Tryz.prog) (hX : XOk Tryz.prog X) (n : Int) (N : Nat) (hN : IntKind.u64.wrap n = (N : Int)) (S : Int) :
    ACall Tryz.prog 4 [.int .i64 n, .int .i64 S] h (BlockIs N S h) := by
  refine ACall.body Tryz.func4 rfl (ρ := fm 37 [(1, .int .i64 S), (0, .int .i64 n)]) (entry2 Tryz.ntmps4 (by decide)) ?_
  apply AC.reg hP hX call0_ok
  · repeat (first | (apply rstep; (· exact rfl); (· (simp only [↓ob_some, ↓bc_true, ↓bc_false, ↓after_val, ↓orE_some, runOps_cons, runOps_nil, wanted_none, ob_some, bc_true, bc_false, x_move, x_assign, x_pick, asB_bool, ev_int, ev_bool, ev_nils, ev_tmp, ret_v, after_val, putT_some, putT_none, fput_fm, tget_hit, tget_miss, ne_eq, Nat.reduceEqDiff, not_false_eq_true, Nat.reduceLT, orE_some, x_binOp, bi_int, bi_lss, bi_leq, bi_gtr, bi_eql, bi_neq, bi_add, x_indexAddr, x_load, asPtr_ptr, x_convert, x_blen, evs_cons, evs_nil] <;> exact rfl)); (· (first | exact rput (by decide) | exact putT_none))))
    exact rfl
  by_cases hlo : S < 0
  · refine AC.seqM (fun _ _ => False) ?_ (fun _ _ e => e.elim)
    apply AC.reg hP hX call0_ok
    · repeat (first | (apply rstep; (· (first | exact rfl | (simp only [List.toList_toArray, wanted_some, wants_t, wants_f, guardTmp, nth_eq, List.getElem?_cons_succ, List.getElem?_cons_zero, ob_some, tget_hit, tget_miss, ne_eq, Nat.reduceEqDiff, not_false_eq_true, Bool.not_true, Bool.not_false, decide_eq_true hlo]))); (· (simp only [↓ob_some, ↓bc_true, ↓bc_false, ↓after_val, ↓orE_some, runOps_cons, runOps_nil, wanted_none, ob_some, bc_true, bc_false, x_move, x_assign, x_pick, asB_bool, ev_int, ev_bool, ev_nils, ev_tmp, ret_v, after_val, putT_some, putT_none, fput_fm, tget_hit, tget_miss, ne_eq, Nat.reduceEqDiff, not_false_eq_true, Nat.reduceLT, orE_some, x_binOp, bi_int, bi_lss, bi_leq, bi_gtr, bi_eql, bi_neq, bi_add, x_indexAddr, x_load, asPtr_ptr, x_convert, x_blen, evs_cons, evs_nil, decide_eq_true hlo] <;> exact rfl)); (· (first | exact rput (by decide) | exact putT_none))) | (apply rskip; (· (first | exact rfl | (simp only [List.toList_toArray, wanted_some, wants_t, wants_f, guardTmp, nth_eq, List.getElem?_cons_succ, List.getElem?_cons_zero, ob_some, tget_hit, tget_miss, ne_eq, Nat.reduceEqDiff, not_false_eq_true, Bool.not_true, Bool.not_false, decide_eq_true hlo]))); (· (first | exact rput (by decide) | exact putT_none))))
      exact rfl
    apply AC.cond (t := true)
    · simp only [ev_tmp, tget_hit]
    apply AC.reg hP hX call0_ok
    · repeat (first | (apply rstep; (· exact rfl); (· (simp only [↓ob_some, ↓bc_true, ↓bc_false, ↓after_val, ↓orE_some, runOps_cons, runOps_nil, wanted_none, ob_some, bc_true, bc_false, x_move, x_assign, x_pick, asB_bool, ev_int, ev_bool, ev_nils, ev_tmp, ret_v, after_val, putT_some, putT_none, fput_fm, tget_hit, tget_miss, ne_eq, Nat.reduceEqDiff, not_false_eq_true, Nat.reduceLT, orE_some, x_binOp, bi_int, bi_lss, bi_leq, bi_gtr, bi_eql, bi_neq, bi_add, x_indexAddr, x_load, asPtr_ptr, x_convert, x_blen, evs_cons, evs_nil] <;> exact rfl)); (· (first | exact rput (by decide) | exact putT_none))))
      exact rfl
    exact AC.ret ⟨rfl, _, res1 (t := 4) rfl (tget_hit ..), .inl ⟨.inl hlo, rfl, rfl⟩⟩
  by_cases hhi : 256 < S
  · refine AC.seqM (fun _ _ => False) ?_ (fun _ _ e => e.elim)
    apply AC.reg hP hX call0_ok
    · repeat (first | (apply rstep; (· (first | exact rfl | (simp only [List.toList_toArray, wanted_some, wants_t, wants_f, guardTmp, nth_eq, List.getElem?_cons_succ, List.getElem?_cons_zero, ob_some, tget_hit, tget_miss, ne_eq, Nat.reduceEqDiff, not_false_eq_true, Bool.not_true, Bool.not_false, decide_eq_false hlo, decide_eq_true hhi, Bool.not_false]))); (· (simp only [↓ob_some, ↓bc_true, ↓bc_false, ↓after_val, ↓orE_some, runOps_cons, runOps_nil, wanted_none, ob_some, bc_true, bc_false, x_move, x_assign, x_pick, asB_bool, ev_int, ev_bool, ev_nils, ev_tmp, ret_v, after_val, putT_some, putT_none, fput_fm, tget_hit, tget_miss, ne_eq, Nat.reduceEqDiff, not_false_eq_true, Nat.reduceLT, orE_some, x_binOp, bi_int, bi_lss, bi_leq, bi_gtr, bi_eql, bi_neq, bi_add, x_indexAddr, x_load, asPtr_ptr, x_convert, x_blen, evs_cons, evs_nil, decide_eq_false hlo, decide_eq_true hhi, Bool.not_false] <;> exact rfl)); (· (first | exact rput (by decide) | exact putT_none))) | (apply rskip; (· (first | exact rfl | (simp only [List.toList_toArray, wanted_some, wants_t, wants_f, guardTmp, nth_eq, List.getElem?_cons_succ, List.getElem?_cons_zero, ob_some, tget_hit, tget_miss, ne_eq, Nat.reduceEqDiff, not_false_eq_true, Bool.not_true, Bool.not_false, decide_eq_false hlo, decide_eq_true hhi, Bool.not_false]))); (· (first | exact rput (by decide) | exact putT_none))))
      exact rfl
    apply AC.cond (t := true)
    · simp only [ev_tmp, tget_hit]
    apply AC.reg hP hX call0_ok
    · repeat (first | (apply rstep; (· exact rfl); (· (simp only [↓ob_some, ↓bc_true, ↓bc_false, ↓after_val, ↓orE_some, runOps_cons, runOps_nil, wanted_none, ob_some, bc_true, bc_false, x_move, x_assign, x_pick, asB_bool, ev_int, ev_bool, ev_nils, ev_tmp, ret_v, after_val, putT_some, putT_none, fput_fm, tget_hit, tget_miss, ne_eq, Nat.reduceEqDiff, not_false_eq_true, Nat.reduceLT, orE_some, x_binOp, bi_int, bi_lss, bi_leq, bi_gtr, bi_eql, bi_neq, bi_add, x_indexAddr, x_load, asPtr_ptr, x_convert, x_blen, evs_cons, evs_nil] <;> exact rfl)); (· (first | exact rput (by decide) | exact putT_none))))
      exact rfl
    exact AC.ret ⟨rfl, _, res1 (t := 4) rfl (tget_hit ..), .inl ⟨.inr hhi, rfl, rfl⟩⟩
  obtain ⟨s, rfl⟩ := Int.eq_ofNat_of_zero_le (Int.not_lt.1 hlo)
  have hs : s ≤ 256 := by omega
  refine AC.seqM (fun ρ' h' => h' = h ∧ FSub (fm 37 [(1, .int .i64 (s : Int)), (0, .int .i64 n)]) ρ') ?_ ?_
  · 
    apply AC.reg hP hX call0_ok
    · repeat (first | (apply rstep; (· (first | exact rfl | (simp only [List.toList_toArray, wanted_some, wants_t, wants_f, guardTmp, nth_eq, List.getElem?_cons_succ, List.getElem?_cons_zero, ob_some, tget_hit, tget_miss, ne_eq, Nat.reduceEqDiff, not_false_eq_true, Bool.not_true, Bool.not_false, decide_eq_false hlo, decide_eq_false hhi, Bool.not_false]))); (· (simp only [↓ob_some, ↓bc_true, ↓bc_false, ↓after_val, ↓orE_some, runOps_cons, runOps_nil, wanted_none, ob_some, bc_true, bc_false, x_move, x_assign, x_pick, asB_bool, ev_int, ev_bool, ev_nils, ev_tmp, ret_v, after_val, putT_some, putT_none, fput_fm, tget_hit, tget_miss, ne_eq, Nat.reduceEqDiff, not_false_eq_true, Nat.reduceLT, orE_some, x_binOp, bi_int, bi_lss, bi_leq, bi_gtr, bi_eql, bi_neq, bi_add, x_indexAddr, x_load, asPtr_ptr, x_convert, x_blen, evs_cons, evs_nil, decide_eq_false hlo, decide_eq_false hhi, Bool.not_false] <;> exact rfl)); (· (first | exact rput (by decide) | exact putT_none))) | (apply rskip; (· (first | exact rfl | (simp only [List.toList_toArray, wanted_some, wants_t, wants_f, guardTmp, nth_eq, List.getElem?_cons_succ, List.getElem?_cons_zero, ob_some, tget_hit, tget_miss, ne_eq, Nat.reduceEqDiff, not_false_eq_true, Bool.not_true, Bool.not_false, decide_eq_false hlo, decide_eq_false hhi, Bool.not_false]))); (· (first | exact rput (by decide) | exact putT_none))))
      exact rfl
    apply AC.cond (t := false)
    · simp only [ev_tmp, tget_hit]
    exact AC.skip ⟨rfl, FSub.fm rfl (by simp [tget_cons])⟩
  rintro ρ' h' ⟨rfl, u⟩
  refine AC.weak ?_ u (Sub.refl _)
  apply AC.reg hP hX call0_ok
  · repeat (first | (apply rstep; (· exact rfl); (· (simp only [↓ob_some, ↓bc_true, ↓bc_false, ↓after_val, ↓orE_some, runOps_cons, runOps_nil, wanted_none, ob_some, bc_true, bc_false, x_move, x_assign, x_pick, asB_bool, ev_int, ev_bool, ev_nils, ev_tmp, ret_v, after_val, putT_some, putT_none, fput_fm, tget_hit, tget_miss, ne_eq, Nat.reduceEqDiff, not_false_eq_true, Nat.reduceLT, orE_some, x_binOp, bi_int, bi_lss, bi_leq, bi_gtr, bi_eql, bi_neq, bi_add, x_indexAddr, x_load, asPtr_ptr, x_convert, x_blen, evs_cons, evs_nil, x_makeSlice, te22, ei5, asIdx_nat, ble_t.2 (Nat.le_refl s), show Nat.ble (Nat.mul s (Nat.add 1 1)) maxBytes = true from ble_t.2 (show s * 2 ≤ 1099511627776 by omega)] <;> exact rfl)); (· (first | exact rput (by decide) | exact putT_none))))
    exact rfl
  have hrep : repl [AV.int .u8 0] s = List.replicate s (.int .u8 0) := by
    clear hs hlo hhi u
    induction s with
    | zero => rfl
    | succ s ih => show [AV.int .u8 0] ++ repl [AV.int .u8 0] s = _; rw [ih]; rfl
  apply AC.seq
  apply AC.reg hP hX call0_ok
  · repeat (first | (apply rstep; (· exact rfl); (· (simp only [↓ob_some, ↓bc_true, ↓bc_false, ↓after_val, ↓orE_some, runOps_cons, runOps_nil, wanted_none, ob_some, bc_true, bc_false, x_move, x_assign, x_pick, asB_bool, ev_int, ev_bool, ev_nils, ev_tmp, ret_v, after_val, putT_some, putT_none, fput_fm, tget_hit, tget_miss, ne_eq, Nat.reduceEqDiff, not_false_eq_true, Nat.reduceLT, orE_some, x_binOp, bi_int, bi_lss, bi_leq, bi_gtr, bi_eql, bi_neq, bi_add, x_indexAddr, x_load, asPtr_ptr, x_convert, x_blen, evs_cons, evs_nil, len_slice u22 (show lenOf (.sl h'.next 0 s s 1 true) = some s from rfl) rfl] <;> exact rfl)); (· (first | exact rput (by decide) | exact putT_none))))
    exact rfl
  apply AC.block
  refine (AC.loopM (fun m ρ h2 => ∃ i, i + m = s ∧ ρ = fm 37 [(17, .int .i64 (i : Int)), (16, .int .i64 (s : Int)), (5, .sl h'.next 0 s s 1 true), (0, .int .i64 n)] ∧
      h2.get h'.next = some (.cells (vals N i ++ List.replicate (s - i) (.int .u8 0)) true) ∧ h2.next = h'.next + 1 ∧ ∀ b, b ≠ h'.next → h2.get b = h'.get b) ?_ s _ _ ⟨0, by omega, rfl, ?_, rfl, ?_⟩).weak (FSub.fm rfl ?_) (Sub.refl _)
  · rintro m ρ h2 ⟨i, him, rfl, hg, hnx, ho⟩
    apply AC.reg hP hX call0_ok
    · repeat (first | (apply rstep; (· exact rfl); (· (simp only [↓ob_some, ↓bc_true, ↓bc_false, ↓after_val, ↓orE_some, runOps_cons, runOps_nil, wanted_none, ob_some, bc_true, bc_false, x_move, x_assign, x_pick, asB_bool, ev_int, ev_bool, ev_nils, ev_tmp, ret_v, after_val, putT_some, putT_none, fput_fm, tget_hit, tget_miss, ne_eq, Nat.reduceEqDiff, not_false_eq_true, Nat.reduceLT, orE_some, x_binOp, bi_int, bi_lss, bi_leq, bi_gtr, bi_eql, bi_neq, bi_add, x_indexAddr, x_load, asPtr_ptr, x_convert, x_blen, evs_cons, evs_nil] <;> exact rfl)); (· (first | exact rput (by decide) | exact putT_none))))
      exact rfl
    by_cases hi : i < s
    · apply AC.next
      · simp only [ev_tmp, tget_hit]; rw [decide_eq_true (by omega)]
      have hrem : intBin .rem .i64 (i : Int) .i64 8 = some (.int .i64 ((i % 8 : Nat) : Int)) := by
        rw [bi_rem (by decide)]; rfl
      have hsub : intBin .sub .i64 7 .i64 ((i % 8 : Nat) : Int) = some (.int .i64 ((7 - i % 8 : Nat) : Int)) := by
        rw [bi_sub, show (7 : Int) - ((i % 8 : Nat) : Int) = ((7 - i % 8 : Nat) : Int) by omega, wrap_fit (show 7 - i % 8 < 9223372036854775808 by omega)]
      have hmul : intBin .mul .i64 8 .i64 ((7 - i % 8 : Nat) : Int) = some (.int .i64 ((56 - 8 * (i % 8) : Nat) : Int)) := by
        rw [bi_mul, show (8 : Int) * ((7 - i % 8 : Nat) : Int) = ((56 - 8 * (i % 8) : Nat) : Int) by omega, wrap_fit (show 56 - 8 * (i % 8) < 9223372036854775808 by omega)]
      have hshr : intBin .shr .u64 (N : Int) .i64 ((56 - 8 * (i % 8) : Nat) : Int) = some (.int .u64 ((N / 2 ^ (56 - 8 * (i % 8)) : Nat) : Int)) := bi_shr_u (show 56 - 8 * (i % 8) ≤ 64 by omega)
      have hquo : intBin .quo .i64 (i : Int) .i64 8 = some (.int .i64 ((i / 8 : Nat) : Int)) := by
        rw [bi_quo (by decide), show Int.tdiv (i : Int) 8 = ((i / 8 : Nat) : Int) from (Int.ofNat_tdiv i 8).symm, wrap_fit (show i / 8 < 9223372036854775808 by omega)]
      have hadd : ∀ a b : Nat, intBin .add .u8 ((a % 256 : Nat) : Int) .u8 ((b % 256 : Nat) : Int) = some (.int .u8 (((a % 256 + b) % 256 : Nat) : Int)) := by
        intro a b; rw [bi_add, ← Int.natCast_add, wrap_u8]; congr 3; omega
      have hst : storeT Tryz.prog h2 5 h'.next (0 + i * 1) (.int .u8 (((N / 2 ^ (56 - 8 * (i % 8)) % 256 + i / 8) % 256 : Nat) : Int)) = some (h2.set h'.next (.cells (vals N (i + 1) ++ List.replicate (s - (i + 1)) (.int .u8 0)) true)) := by
        show ob (tsize Tryz.prog 5) (fun n => bc (Nat.beq 1 n) (storeCells h2 h'.next (0 + i * 1) [_]) none) = _
        rw [ts5, ob_some, show Nat.beq 1 1 = true from rfl, bc_true]
        unfold storeCells
        rw [hg, ob_some]
        show ob (some _) _ = _
        rw [ob_some, show 0 + i * 1 = i by omega]
        have := set_vals N s i hi
        unfold bv at this
        rw [this]; rfl
      refine AC.seqM (fun ρ' h3 => h3 = h2.set h'.next (.cells (vals N (i + 1) ++ List.replicate (s - (i + 1)) (.int .u8 0)) true) ∧ FSub (fm 37 [(17, .int .i64 (i : Int)), (16, .int .i64 (s : Int)), (5, .sl h'.next 0 s s 1 true), (0, .int .i64 n)]) ρ') ?_ ?_
      · apply AC.block
        apply AC.reg hP hX call0_ok
        · repeat (first | (apply rstep; (· exact rfl); (· (simp only [↓ob_some, ↓bc_true, ↓bc_false, ↓after_val, ↓orE_some, runOps_cons, runOps_nil, wanted_none, ob_some, bc_true, bc_false, x_move, x_assign, x_pick, asB_bool, ev_int, ev_bool, ev_nils, ev_tmp, ret_v, after_val, putT_some, putT_none, fput_fm, tget_hit, tget_miss, ne_eq, Nat.reduceEqDiff, not_false_eq_true, Nat.reduceLT, orE_some, x_binOp, bi_int, bi_lss, bi_leq, bi_gtr, bi_eql, bi_neq, bi_add, x_indexAddr, x_load, asPtr_ptr, x_convert, x_blen, evs_cons, evs_nil] <;> exact rfl)); (· (first | exact rput (by decide) | exact putT_none))))
          exact rfl
        apply AC.reg1 hP hX call0_ok
        · repeat (first | (apply rstep; (· exact rfl); (· (simp only [↓ob_some, ↓bc_true, ↓bc_false, ↓after_val, ↓orE_some, runOps_cons, runOps_nil, wanted_none, ob_some, bc_true, bc_false, x_move, x_assign, x_pick, asB_bool, ev_int, ev_bool, ev_nils, ev_tmp, ret_v, after_val, putT_some, putT_none, fput_fm, tget_hit, tget_miss, ne_eq, Nat.reduceEqDiff, not_false_eq_true, Nat.reduceLT, orE_some, x_binOp, bi_int, bi_lss, bi_leq, bi_gtr, bi_eql, bi_neq, bi_add, x_indexAddr, x_load, asPtr_ptr, x_convert, x_blen, evs_cons, evs_nil, u22, u3, u23, u5, cv_int i64I, cv_int u64I, hN, hrem, hsub, hmul, hshr, hquo, wrap_u8, hadd, asIdx_nat, ix_slice ts5 hi, x_store, hst] <;> exact rfl)); (· (first | exact rput (by decide) | exact putT_none))))
          exact rfl
        exact ⟨rfl, FSub.fm rfl (by simp [tget_cons])⟩
      · rintro ρ' h3 ⟨rfl, u⟩
        refine AC.weak ?_ u (Sub.refl _)
        have hi1 : IntKind.i64.wrap ((i : Int) + 1) = ((i + 1 : Nat) : Int) := wrap_fit (n := i + 1) (show i + 1 < 9223372036854775808 by omega)
        apply AC.reg1 hP hX call0_ok
        · repeat (first | (apply rstep; (· exact rfl); (· (simp only [↓ob_some, ↓bc_true, ↓bc_false, ↓after_val, ↓orE_some, runOps_cons, runOps_nil, wanted_none, ob_some, bc_true, bc_false, x_move, x_assign, x_pick, asB_bool, ev_int, ev_bool, ev_nils, ev_tmp, ret_v, after_val, putT_some, putT_none, fput_fm, tget_hit, tget_miss, ne_eq, Nat.reduceEqDiff, not_false_eq_true, Nat.reduceLT, orE_some, x_binOp, bi_int, bi_lss, bi_leq, bi_gtr, bi_eql, bi_neq, bi_add, x_indexAddr, x_load, asPtr_ptr, x_convert, x_blen, evs_cons, evs_nil, hi1] <;> exact rfl)); (· (first | exact rput (by decide) | exact putT_none))))
          exact rfl
        refine ⟨m - 1, _, _, by omega, ⟨i + 1, by omega, rfl, ?_, ?_, ?_⟩, FSub.fm rfl (by simp [tget_cons]), Sub.refl _⟩
        · rw [H.get_set, if_pos rfl]
        · rw [H.next_set]; exact hnx
        · intro b hb
          rw [H.get_set, if_neg (fun e => hb e.symm)]; exact ho b hb
    · apply AC.leave
      · simp only [ev_tmp, tget_hit]; rw [decide_eq_false (by omega)]
      have : i = s := by omega
      subst this
      show AC _ _ _ _ _
      apply AC.reg hP hX call0_ok
      · repeat (first | (apply rstep; (· exact rfl); (· (simp only [↓ob_some, ↓bc_true, ↓bc_false, ↓after_val, ↓orE_some, runOps_cons, runOps_nil, wanted_none, ob_some, bc_true, bc_false, x_move, x_assign, x_pick, asB_bool, ev_int, ev_bool, ev_nils, ev_tmp, ret_v, after_val, putT_some, putT_none, fput_fm, tget_hit, tget_miss, ne_eq, Nat.reduceEqDiff, not_false_eq_true, Nat.reduceLT, orE_some, x_binOp, bi_int, bi_lss, bi_leq, bi_gtr, bi_eql, bi_neq, bi_add, x_indexAddr, x_load, asPtr_ptr, x_convert, x_blen, evs_cons, evs_nil] <;> exact rfl)); (· (first | exact rput (by decide) | exact putT_none))))
        exact rfl
      refine AC.ret ⟨rfl, _, res1 (t := 4) rfl (tget_hit ..), .inr ⟨i, rfl, hs, rfl, ?_, hnx, ho⟩⟩
      simpa using hg
  · show (h'.new (.cells (repl [AV.int .u8 0] s) true)).get h'.next = _
    rw [H.get_new, if_pos rfl, hrep]; simp [vals]
  · intro b hb
    show (h'.new (.cells (repl [AV.int .u8 0] s) true)).get b = _
    rw [H.get_new, if_neg (fun e => hb e.symm)]
  · simp [tget_cons]


theorem same_ok (hP : POk Tryz.prog) (hX : XOk Tryz.prog X) {a b : AV} {xs ys : List Nat} (ha : SlAt h a 1 (u8s xs)) (hb : SlAt h b 1 (u8s ys)) (hl : xs.length < 2^62) :
    ACall Tryz.prog 5 [a, b] h fun v h' => v = .bool (decide (xs = ys)) ∧ h.next ≤ h'.next ∧ ∀ c, h'.get c = h.get c := by
  obtain ⟨na, hna, hla⟩ := ha.len
  obtain ⟨nb, hnb, hlb⟩ := hb.len
  have hsa := ha.noStr
  have hsb := hb.noStr
  have hxa : na = xs.length := by simpa [u8s] using hla.symm
  have hyb : nb = ys.length := by simpa [u8s] using hlb.symm
  refine ACall.body Tryz.func5 rfl (ρ := fm 26 [(1, b), (0, a)]) (entry2 Tryz.ntmps5 (by decide)) ?_
  apply AC.reg hP hX call0_ok
  · repeat (first | (apply rstep; (· exact rfl); (· (simp only [↓ob_some, ↓bc_true, ↓bc_false, ↓after_val, ↓orE_some, runOps_cons, runOps_nil, wanted_none, ob_some, bc_true, bc_false, x_move, x_assign, x_pick, asB_bool, ev_int, ev_bool, ev_nils, ev_tmp, ret_v, after_val, putT_some, putT_none, fput_fm, tget_hit, tget_miss, ne_eq, Nat.reduceEqDiff, not_false_eq_true, Nat.reduceLT, orE_some, x_binOp, bi_int, bi_lss, bi_leq, bi_gtr, bi_eql, bi_neq, bi_add, x_indexAddr, x_load, asPtr_ptr, x_convert, x_blen, evs_cons, evs_nil] <;> exact rfl)); (· (first | exact rput (by decide) | exact putT_none))))
    exact rfl
  by_cases hlen : na = nb
  rotate_left
  · refine AC.seqM (fun _ _ => False) ?_ (fun _ _ e => e.elim)
    apply AC.reg hP hX call0_ok
    · repeat (first | (apply rstep; (· exact rfl); (· (simp only [↓ob_some, ↓bc_true, ↓bc_false, ↓after_val, ↓orE_some, runOps_cons, runOps_nil, wanted_none, ob_some, bc_true, bc_false, x_move, x_assign, x_pick, asB_bool, ev_int, ev_bool, ev_nils, ev_tmp, ret_v, after_val, putT_some, putT_none, fput_fm, tget_hit, tget_miss, ne_eq, Nat.reduceEqDiff, not_false_eq_true, Nat.reduceLT, orE_some, x_binOp, bi_int, bi_lss, bi_leq, bi_gtr, bi_eql, bi_neq, bi_add, x_indexAddr, x_load, asPtr_ptr, x_convert, x_blen, evs_cons, evs_nil, len_slice u22 hna hsa, len_slice u22 hnb hsb, decide_eq_false (show ¬ (na : Int) = (nb : Int) by omega), Bool.not_false] <;> exact rfl)); (· (first | exact rput (by decide) | exact putT_none))))
      exact rfl
    apply AC.cond (t := true)
    · simp only [ev_tmp, tget_hit]
    apply AC.reg hP hX call0_ok
    · repeat (first | (apply rstep; (· exact rfl); (· (simp only [↓ob_some, ↓bc_true, ↓bc_false, ↓after_val, ↓orE_some, runOps_cons, runOps_nil, wanted_none, ob_some, bc_true, bc_false, x_move, x_assign, x_pick, asB_bool, ev_int, ev_bool, ev_nils, ev_tmp, ret_v, after_val, putT_some, putT_none, fput_fm, tget_hit, tget_miss, ne_eq, Nat.reduceEqDiff, not_false_eq_true, Nat.reduceLT, orE_some, x_binOp, bi_int, bi_lss, bi_leq, bi_gtr, bi_eql, bi_neq, bi_add, x_indexAddr, x_load, asPtr_ptr, x_convert, x_blen, evs_cons, evs_nil] <;> exact rfl)); (· (first | exact rput (by decide) | exact putT_none))))
      exact rfl
    refine AC.ret ⟨rfl, _, res1 (t := 4) rfl (tget_hit ..), ?_, Nat.le_refl _, fun _ => rfl⟩
    rw [decide_eq_false]
    intro e; subst e; omega
  refine AC.seqM (fun ρ' h' => h' = h ∧ FSub (fm 26 [(1, b), (0, a)]) ρ') ?_ ?_
  · 
    apply AC.reg hP hX call0_ok
    · repeat (first | (apply rstep; (· exact rfl); (· (simp only [↓ob_some, ↓bc_true, ↓bc_false, ↓after_val, ↓orE_some, runOps_cons, runOps_nil, wanted_none, ob_some, bc_true, bc_false, x_move, x_assign, x_pick, asB_bool, ev_int, ev_bool, ev_nils, ev_tmp, ret_v, after_val, putT_some, putT_none, fput_fm, tget_hit, tget_miss, ne_eq, Nat.reduceEqDiff, not_false_eq_true, Nat.reduceLT, orE_some, x_binOp, bi_int, bi_lss, bi_leq, bi_gtr, bi_eql, bi_neq, bi_add, x_indexAddr, x_load, asPtr_ptr, x_convert, x_blen, evs_cons, evs_nil, len_slice u22 hna hsa, len_slice u22 hnb hsb, decide_eq_true (show (na : Int) = (nb : Int) by omega), Bool.not_true] <;> exact rfl)); (· (first | exact rput (by decide) | exact putT_none))))
      exact rfl
    apply AC.cond (t := false)
    · simp only [ev_tmp, tget_hit]
    exact AC.skip ⟨rfl, FSub.fm rfl (by simp [tget_cons])⟩
  rintro ρ' h' ⟨rfl, u⟩
  refine AC.weak ?_ u (Sub.refl _)
  apply AC.seq
  apply AC.reg hP hX call0_ok
  · repeat (first | (apply rstep; (· exact rfl); (· (simp only [↓ob_some, ↓bc_true, ↓bc_false, ↓after_val, ↓orE_some, runOps_cons, runOps_nil, wanted_none, ob_some, bc_true, bc_false, x_move, x_assign, x_pick, asB_bool, ev_int, ev_bool, ev_nils, ev_tmp, ret_v, after_val, putT_some, putT_none, fput_fm, tget_hit, tget_miss, ne_eq, Nat.reduceEqDiff, not_false_eq_true, Nat.reduceLT, orE_some, x_binOp, bi_int, bi_lss, bi_leq, bi_gtr, bi_eql, bi_neq, bi_add, x_indexAddr, x_load, asPtr_ptr, x_convert, x_blen, evs_cons, evs_nil] <;> exact rfl)); (· (first | exact rput (by decide) | exact putT_none))))
    exact rfl
  apply AC.block
  refine (AC.loopM (fun m ρ h2 => ∃ i, i + m = na ∧ ρ = fm 26 [(5, .int .i64 (i : Int)), (1, b), (0, a)] ∧ xs.take i = ys.take i ∧ h'.next ≤ h2.next ∧ ∀ c, h2.get c = h'.get c) ?_ na _ _ ⟨0, by omega, rfl, rfl, Nat.le_refl _, fun _ => rfl⟩).weak (FSub.fm rfl ?_) (Sub.refl _)
  rotate_left
  · simp [tget_cons]
  rintro m ρ h2 ⟨i, him, rfl, htk, hnx, hg⟩
  apply AC.seq
  apply AC.reg hP hX call0_ok
  · repeat (first | (apply rstep; (· exact rfl); (· (simp only [↓ob_some, ↓bc_true, ↓bc_false, ↓after_val, ↓orE_some, runOps_cons, runOps_nil, wanted_none, ob_some, bc_true, bc_false, x_move, x_assign, x_pick, asB_bool, ev_int, ev_bool, ev_nils, ev_tmp, ret_v, after_val, putT_some, putT_none, fput_fm, tget_hit, tget_miss, ne_eq, Nat.reduceEqDiff, not_false_eq_true, Nat.reduceLT, orE_some, x_binOp, bi_int, bi_lss, bi_leq, bi_gtr, bi_eql, bi_neq, bi_add, x_indexAddr, x_load, asPtr_ptr, x_convert, x_blen, evs_cons, evs_nil, len_slice u22 hna hsa] <;> exact rfl)); (· (first | exact rput (by decide) | exact putT_none))))
    exact rfl
  by_cases hi : i < na
  · apply AC.next1
    · simp only [ev_tmp, tget_hit]; rw [decide_eq_true (by omega)]
    show AC _ _ _ _ _
    have hi1 : IntKind.i64.wrap ((i : Int) + 1) = ((i + 1 : Nat) : Int) := wrap_fit (n := i + 1) (show i + 1 < 9223372036854775808 by omega)
    have hix : i < xs.length := by omega
    have hiy : i < ys.length := by omega
    obtain ⟨ba, oa, na', ca, ea, rfl, hla2, hga⟩ := (ha.turn hg).sl (by intro e; have h0 := congrArg List.length e; rw [List.length_nil] at h0; omega)
    obtain ⟨bb, ob', nb', cb, eb, rfl, hlb2, hgb⟩ := (hb.turn hg).sl (by intro e; have h0 := congrArg List.length e; rw [List.length_nil] at h0; omega)
    have hna' : na' = na := by rw [hla] at hla2; omega
    have hnb' : nb' = nb := by rw [hlb] at hlb2; omega
    have hca := hga i (by omega)
    have hcb := hgb i (by omega)
    rw [u8s_get xs i hix] at hca
    rw [u8s_get ys i hiy] at hcb
    refine AC.seqM (fun ρ' h3 => xs[i] = ys[i] ∧ h2.next ≤ h3.next ∧ (∀ c, h3.get c = h2.get c) ∧ FSub (fm 26 [(5, .int .i64 (i : Int)), (1, .sl bb ob' nb' cb 1 eb), (0, .sl ba oa na' ca 1 ea)]) ρ') ?_ ?_
    · apply AC.block
      apply AC.readers hP hX call0_ok
      · kernel_rfl
      · repeat (first | (apply rstep; (· exact rfl); (· (simp only [↓ob_some, ↓bc_true, ↓bc_false, ↓after_val, ↓orE_some, runOps_cons, runOps_nil, wanted_none, ob_some, bc_true, bc_false, x_move, x_assign, x_pick, asB_bool, ev_int, ev_bool, ev_nils, ev_tmp, ret_v, after_val, putT_some, putT_none, fput_fm, tget_hit, tget_miss, ne_eq, Nat.reduceEqDiff, not_false_eq_true, Nat.reduceLT, orE_some, x_binOp, bi_int, bi_lss, bi_leq, bi_gtr, bi_eql, bi_neq, bi_add, x_indexAddr, x_load, asPtr_ptr, x_convert, x_blen, evs_cons, evs_nil, u22, asIdx_nat, ix_slice ts5 (show i < na' by omega), ix_slice ts5 (show i < nb' by omega), load1 tg5, Nat.mul_one, loadCell_back, hca, hcb] <;> exact rfl)); (· (first | exact rput (by decide) | exact putT_none))))
        exact rfl
      by_cases hxy : xs[i] = ys[i]
      · apply AC.cond (t := false)
        · simp only [ev_tmp, tget_hit]; rw [decide_eq_true (by omega)]; rfl
        exact AC.skip ⟨hxy, by rw [backNext_next]; exact Nat.le_add_right _ _, fun c => backNext_get _ _ _, FSub.fm rfl (by simp [tget_cons])⟩
      · apply AC.cond (t := true)
        · simp only [ev_tmp, tget_hit]; rw [decide_eq_false (by omega)]; rfl
        apply AC.reg hP hX call0_ok
        · repeat (first | (apply rstep; (· exact rfl); (· (simp only [↓ob_some, ↓bc_true, ↓bc_false, ↓after_val, ↓orE_some, runOps_cons, runOps_nil, wanted_none, ob_some, bc_true, bc_false, x_move, x_assign, x_pick, asB_bool, ev_int, ev_bool, ev_nils, ev_tmp, ret_v, after_val, putT_some, putT_none, fput_fm, tget_hit, tget_miss, ne_eq, Nat.reduceEqDiff, not_false_eq_true, Nat.reduceLT, orE_some, x_binOp, bi_int, bi_lss, bi_leq, bi_gtr, bi_eql, bi_neq, bi_add, x_indexAddr, x_load, asPtr_ptr, x_convert, x_blen, evs_cons, evs_nil] <;> exact rfl)); (· (first | exact rput (by decide) | exact putT_none))))
          exact rfl
        refine AC.ret ⟨rfl, _, res1 (t := 4) rfl (tget_hit ..), ?_, ?_, fun c => ?_⟩
        · rw [decide_eq_false]
          intro e; subst e; exact hxy rfl
        · rw [backNext_next]; exact Nat.le_trans hnx (Nat.le_add_right _ _)
        · rw [backNext_get]; exact hg c
    · rintro ρ' h3 ⟨hxy, hn3, hg3, u⟩
      refine AC.weak ?_ u (Sub.refl _)
      apply AC.reg1 hP hX call0_ok
      · repeat (first | (apply rstep; (· exact rfl); (· (simp only [↓ob_some, ↓bc_true, ↓bc_false, ↓after_val, ↓orE_some, runOps_cons, runOps_nil, wanted_none, ob_some, bc_true, bc_false, x_move, x_assign, x_pick, asB_bool, ev_int, ev_bool, ev_nils, ev_tmp, ret_v, after_val, putT_some, putT_none, fput_fm, tget_hit, tget_miss, ne_eq, Nat.reduceEqDiff, not_false_eq_true, Nat.reduceLT, orE_some, x_binOp, bi_int, bi_lss, bi_leq, bi_gtr, bi_eql, bi_neq, bi_add, x_indexAddr, x_load, asPtr_ptr, x_convert, x_blen, evs_cons, evs_nil, hi1] <;> exact rfl)); (· (first | exact rput (by decide) | exact putT_none))))
        exact rfl
      refine ⟨m - 1, _, _, by omega, ⟨i + 1, by omega, rfl, ?_, by omega, fun c => (hg3 c).trans (hg c)⟩, FSub.fm rfl (by simp [tget_cons]), Sub.refl _⟩
      rw [List.take_succ_eq_append_getElem hix, List.take_succ_eq_append_getElem hiy, htk, hxy]
  · apply AC.leave1
    · simp only [ev_tmp, tget_hit]; rw [decide_eq_false (by omega)]
    show AC _ _ _ _ _
    apply AC.reg hP hX call0_ok
    · repeat (first | (apply rstep; (· exact rfl); (· (simp only [↓ob_some, ↓bc_true, ↓bc_false, ↓after_val, ↓orE_some, runOps_cons, runOps_nil, wanted_none, ob_some, bc_true, bc_false, x_move, x_assign, x_pick, asB_bool, ev_int, ev_bool, ev_nils, ev_tmp, ret_v, after_val, putT_some, putT_none, fput_fm, tget_hit, tget_miss, ne_eq, Nat.reduceEqDiff, not_false_eq_true, Nat.reduceLT, orE_some, x_binOp, bi_int, bi_lss, bi_leq, bi_gtr, bi_eql, bi_neq, bi_add, x_indexAddr, x_load, asPtr_ptr, x_convert, x_blen, evs_cons, evs_nil] <;> exact rfl)); (· (first | exact rput (by decide) | exact putT_none))))
      exact rfl
    refine AC.ret ⟨rfl, _, res1 (t := 4) rfl (tget_hit ..), ?_, hnx, hg⟩
    rw [decide_eq_true]
    rw [List.take_of_length_le (by omega), List.take_of_length_le (by omega)] at htk
    exact htk


omit [Th] in
theorem set_one : ∀ (l : List AV) (i : Nat) (y : AV), i < l.length → y.one = true → setRange l i [y] = some (l.set i y)
  | [], i, y, h, _ => by simp at h
  | x :: l, 0, y, _, hy => by
    show bc y.one (ob (some l) fun r => some (y :: r)) none = _
    rw [hy]; rfl
  | x :: l, i + 1, y, h, hy => by
    show ob (setRange l i [y]) (fun r => some (x :: r)) = _
    rw [set_one l i y (by simpa using h) hy]; rfl

theorem over_ok (hP : POk Tryz.prog) (hX : XOk Tryz.prog X) {v : AV} {l : List AV} (hv : Blk h v l) (hl : l.length ≤ 256) :
    ACall Tryz.prog 6 [v] h fun r h' => r = .tup [] ∧ Stay (fun b => ∃ n, v = .sl b 0 n n 1 true) h h' := by
  have hsl := hv.slAt
  obtain ⟨n, hn, hln⟩ := hsl.len
  have hns := hsl.noStr
  have hnl : n = l.length := by simpa using hln.symm
  refine ACall.body Tryz.func6 rfl (ρ := fm 15 [(0, v)]) (entry1 Tryz.ntmps6 (by decide)) ?_
  apply AC.seq
  apply AC.reg hP hX call0_ok
  · repeat (first | (apply rstep; (· exact rfl); (· (simp only [↓ob_some, ↓bc_true, ↓bc_false, ↓after_val, ↓orE_some, runOps_cons, runOps_nil, wanted_none, ob_some, bc_true, bc_false, x_move, x_assign, x_pick, asB_bool, ev_int, ev_bool, ev_nils, ev_tmp, ret_v, after_val, putT_some, putT_none, fput_fm, tget_hit, tget_miss, ne_eq, Nat.reduceEqDiff, not_false_eq_true, Nat.reduceLT, orE_some, x_binOp, bi_int, bi_lss, bi_leq, bi_gtr, bi_eql, bi_neq, bi_add, x_indexAddr, x_load, asPtr_ptr, x_convert, x_blen, evs_cons, evs_nil] <;> exact rfl)); (· (first | exact rput (by decide) | exact putT_none))))
    exact rfl
  apply AC.block
  refine (AC.loopM (fun m ρ h2 => ∃ i, i + m = n ∧ ρ = fm 15 [(2, .int .i64 (i : Int)), (0, v)] ∧ (∃ l2, l2.length = l.length ∧ Blk h2 v l2) ∧ h2.next = h.next ∧ ∀ c, ¬ (∃ n, v = .sl c 0 n n 1 true) → h2.get c = h.get c) ?_ n _ _ ⟨0, by omega, rfl, ⟨l, rfl, hv⟩, rfl, fun _ _ => rfl⟩).weak (FSub.fm rfl ?_) (Sub.refl _)
  rotate_left
  · simp [tget_cons]
  rintro m ρ h2 ⟨i, him, rfl, ⟨l2, hl2, hv2⟩, hnx, hg⟩
  apply AC.seq
  apply AC.reg hP hX call0_ok
  · repeat (first | (apply rstep; (· exact rfl); (· (simp only [↓ob_some, ↓bc_true, ↓bc_false, ↓after_val, ↓orE_some, runOps_cons, runOps_nil, wanted_none, ob_some, bc_true, bc_false, x_move, x_assign, x_pick, asB_bool, ev_int, ev_bool, ev_nils, ev_tmp, ret_v, after_val, putT_some, putT_none, fput_fm, tget_hit, tget_miss, ne_eq, Nat.reduceEqDiff, not_false_eq_true, Nat.reduceLT, orE_some, x_binOp, bi_int, bi_lss, bi_leq, bi_gtr, bi_eql, bi_neq, bi_add, x_indexAddr, x_load, asPtr_ptr, x_convert, x_blen, evs_cons, evs_nil, len_slice u22 hn hns] <;> exact rfl)); (· (first | exact rput (by decide) | exact putT_none))))
    exact rfl
  by_cases hi : i < n
  · apply AC.next1
    · simp only [ev_tmp, tget_hit]; rw [decide_eq_true (by omega)]
    show AC _ _ _ _ _
    have hi1 : IntKind.i64.wrap ((i : Int) + 1) = ((i + 1 : Nat) : Int) := wrap_fit (n := i + 1) (show i + 1 < 9223372036854775808 by omega)
    rcases hv2 with ⟨rfl, rfl⟩ | ⟨b, rfl, hb, hblt⟩
    · simp at hl2; omega
    have hst : storeT Tryz.prog h2 5 b (0 + i * 1) (.int .u8 238) = some (h2.set b (.cells (l2.set i (.int .u8 238)) true)) := by
      show ob (tsize Tryz.prog 5) (fun n => bc (Nat.beq 1 n) (storeCells h2 b (0 + i * 1) [_]) none) = _
      rw [ts5, ob_some, show Nat.beq 1 1 = true from rfl, bc_true]
      unfold storeCells
      rw [hb, ob_some]
      show ob (some _) _ = _
      rw [ob_some, show 0 + i * 1 = i by omega, set_one l2 i _ (by omega) rfl]; rfl
    refine AC.seqM (fun ρ' h3 => h3 = h2.set b (.cells (l2.set i (.int .u8 238)) true) ∧ FSub (fm 15 [(2, .int .i64 (i : Int)), (0, .sl b 0 l2.length l2.length 1 true)]) ρ') ?_ ?_
    · apply AC.block
      apply AC.reg1 hP hX call0_ok
      · repeat (first | (apply rstep; (· exact rfl); (· (simp only [↓ob_some, ↓bc_true, ↓bc_false, ↓after_val, ↓orE_some, runOps_cons, runOps_nil, wanted_none, ob_some, bc_true, bc_false, x_move, x_assign, x_pick, asB_bool, ev_int, ev_bool, ev_nils, ev_tmp, ret_v, after_val, putT_some, putT_none, fput_fm, tget_hit, tget_miss, ne_eq, Nat.reduceEqDiff, not_false_eq_true, Nat.reduceLT, orE_some, x_binOp, bi_int, bi_lss, bi_leq, bi_gtr, bi_eql, bi_neq, bi_add, x_indexAddr, x_load, asPtr_ptr, x_convert, x_blen, evs_cons, evs_nil, u22, asIdx_nat, ix_slice ts5 (show i < l2.length by omega), x_store, hst] <;> exact rfl)); (· (first | exact rput (by decide) | exact putT_none))))
        exact rfl
      exact ⟨rfl, FSub.fm rfl (by simp [tget_cons])⟩
    · rintro ρ' h3 ⟨rfl, u⟩
      refine AC.weak ?_ u (Sub.refl _)
      apply AC.reg1 hP hX call0_ok
      · repeat (first | (apply rstep; (· exact rfl); (· (simp only [↓ob_some, ↓bc_true, ↓bc_false, ↓after_val, ↓orE_some, runOps_cons, runOps_nil, wanted_none, ob_some, bc_true, bc_false, x_move, x_assign, x_pick, asB_bool, ev_int, ev_bool, ev_nils, ev_tmp, ret_v, after_val, putT_some, putT_none, fput_fm, tget_hit, tget_miss, ne_eq, Nat.reduceEqDiff, not_false_eq_true, Nat.reduceLT, orE_some, x_binOp, bi_int, bi_lss, bi_leq, bi_gtr, bi_eql, bi_neq, bi_add, x_indexAddr, x_load, asPtr_ptr, x_convert, x_blen, evs_cons, evs_nil, hi1] <;> exact rfl)); (· (first | exact rput (by decide) | exact putT_none))))
        exact rfl
      refine ⟨m - 1, _, _, by omega, ⟨i + 1, by omega, rfl, ⟨l2.set i (.int .u8 238), by simpa using hl2, .inr ⟨b, by simp, by rw [H.get_set, if_pos rfl], by rw [H.next_set]; exact hblt⟩⟩, by rw [H.next_set]; exact hnx, fun c hc => ?_⟩, FSub.fm rfl (by simp [tget_cons]), Sub.refl _⟩
      rw [H.get_set, if_neg (fun e => hc ⟨_, by rw [e]⟩)]; exact hg c hc
  · apply AC.leave1
    · simp only [ev_tmp, tget_hit]; rw [decide_eq_false (by omega)]
    show AC _ _ _ _ _
    obtain ⟨s', h', e1, e2, e3⟩ := append1x (P := Tryz.prog) (h := h2.new (.cells [.int .u8 238] true)) (s := v) (v := .int .u8 238) (l := l2) (q := h2.next) (st := 22) (xt := 22) (by
      rcases hv2 with ⟨rfl, rfl⟩ | ⟨b, rfl, hb, hblt⟩
      · exact .inl ⟨rfl, rfl⟩
      · exact .inr ⟨b, rfl, by rw [H.get_new, if_neg (by omega)]; exact hb, by rw [H.next_new]; omega⟩) te22 u22 ei5 rfl (by rw [H.get_new, if_pos rfl]) (by omega)
    rw [H.next_new] at e2 e3
    apply AC.reg1 hP hX call0_ok
    · repeat (first | (apply rstep; (· exact rfl); (· (simp only [↓ob_some, ↓bc_true, ↓bc_false, ↓after_val, ↓orE_some, runOps_cons, runOps_nil, wanted_none, ob_some, bc_true, bc_false, x_move, x_assign, x_pick, asB_bool, ev_int, ev_bool, ev_nils, ev_tmp, ret_v, after_val, putT_some, putT_none, fput_fm, tget_hit, tget_miss, ne_eq, Nat.reduceEqDiff, not_false_eq_true, Nat.reduceLT, orE_some, x_binOp, bi_int, bi_lss, bi_leq, bi_gtr, bi_eql, bi_neq, bi_add, x_indexAddr, x_load, asPtr_ptr, x_convert, x_blen, evs_cons, evs_nil, build1 te22 ei5, fill1_int, x_bappend, xa2, e1] <;> exact rfl)); (· (first | exact rput (by decide) | exact putT_none))))
      exact rfl
    refine ⟨rfl, _, res0 rfl, rfl, by omega, fun c hc hne => ?_⟩
    rw [e3 c (by omega), H.get_new, if_neg (by omega)]; exact hg c hne


def bvs (N s : Nat) : List Nat := (List.range s).map (bv N)
omit [Th] in
theorem vals_u8s (N s : Nat) : vals N s = u8s (bvs N s) := by simp [vals, u8s, bvs]

theorem law_ok (hP : POk Tryz.prog) (hX : XOk Tryz.prog X) (haw : ∀ h, ACall Tryz.prog 7 [] h fun v h' => v = .bool true ∧ h' = h) (n S : Int) :
    ACall Tryz.prog 3 [.int .i64 n, .int .i64 S] h fun v _ => v = .bool true := by
  obtain ⟨N, hNlt, hN⟩ := wrap_u64_nat n
  obtain ⟨L, hL1, hL2⟩ : ∃ L : Nat, L ≤ 256 ∧ ∀ i : Nat, i ≤ L → (((i : Int) < S ∧ S ≤ 256) ↔ i < L) := by
    by_cases hb : 0 < S ∧ S ≤ 256
    · exact ⟨S.toNat, by omega, fun i hi => by omega⟩
    · exact ⟨0, by omega, fun i hi => by omega⟩
  have hblk : ∀ (h2 : H) v h3, BlockIs N S h2 v h3 → Blk h3 v (vals N L) ∧ h2.next ≤ h3.next ∧ (∀ c, c ≠ h2.next → h3.get c = h2.get c) ∧ ∀ c n, v = .sl c 0 n n 1 true → c = h2.next := by
    rintro h2 v h3 (⟨hS, rfl, rfl⟩ | ⟨s, rfl, hs, rfl, hg, hnx, ho⟩)
    · have : L = 0 := by
        by_cases h0 : L = 0
        · exact h0
        · have := (hL2 0 (by omega)).2 (by omega); omega
      subst this
      exact ⟨.inl ⟨rfl, rfl⟩, Nat.le_refl _, fun _ _ => rfl, fun c n e => by cases e⟩
    · have : L = s := by
        have h1 := hL2 L (Nat.le_refl _)
        have h2 : ¬ ((L : Int) < s) := fun e => by have := h1.1 ⟨e, by omega⟩; omega
        have h3 := fun e : 0 < L => (hL2 (L - 1) (by omega)).2 (by omega)
        by_cases h0 : L = 0
        · omega
        · have := h3 (by omega); omega
      subst this
      exact ⟨.inr ⟨h2.next, by rw [vals_length], hg, by omega⟩, by omega, ho, fun c n e => by cases e; rfl⟩
  refine ACall.body Tryz.func3 rfl (ρ := fm 52 [(1, .int .i64 S), (0, .int .i64 n)]) (entry2 Tryz.ntmps3 (by decide)) ?_
  apply AC.reg hP hX call0_ok
  · repeat (first | (apply rstep; (· exact rfl); (· (simp only [↓ob_some, ↓bc_true, ↓bc_false, ↓after_val, ↓orE_some, runOps_cons, runOps_nil, wanted_none, ob_some, bc_true, bc_false, x_move, x_assign, x_pick, asB_bool, ev_int, ev_bool, ev_nils, ev_tmp, ret_v, after_val, putT_some, putT_none, fput_fm, tget_hit, tget_miss, ne_eq, Nat.reduceEqDiff, not_false_eq_true, Nat.reduceLT, orE_some, x_binOp, bi_int, bi_lss, bi_leq, bi_gtr, bi_eql, bi_neq, bi_add, x_indexAddr, x_load, asPtr_ptr, x_convert, x_blen, evs_cons, evs_nil] <;> exact rfl)); (· (first | exact rput (by decide) | exact putT_none))))
    exact rfl
  apply AC.reg hP hX call0_ok
  · repeat (first | (apply rstep; (· exact rfl); (· (simp only [↓ob_some, ↓bc_true, ↓bc_false, ↓after_val, ↓orE_some, runOps_cons, runOps_nil, wanted_none, ob_some, bc_true, bc_false, x_move, x_assign, x_pick, asB_bool, ev_int, ev_bool, ev_nils, ev_tmp, ret_v, after_val, putT_some, putT_none, fput_fm, tget_hit, tget_miss, ne_eq, Nat.reduceEqDiff, not_false_eq_true, Nat.reduceLT, orE_some, x_binOp, bi_int, bi_lss, bi_leq, bi_gtr, bi_eql, bi_neq, bi_add, x_indexAddr, x_load, asPtr_ptr, x_convert, x_blen, evs_cons, evs_nil] <;> exact rfl)); (· (first | exact rput (by decide) | exact putT_none))))
    exact rfl
  refine AC.seqM (fun ρ' h' => ∃ wv, FSub (fm 52 [(5, wv), (1, .int .i64 S), (0, .int .i64 n)]) ρ' ∧ Own h' wv (vals N L)) ?_ ?_
  · 
    apply AC.reg hP hX call0_ok
    · repeat (first | (apply rstep; (· exact rfl); (· (simp only [↓ob_some, ↓bc_true, ↓bc_false, ↓after_val, ↓orE_some, runOps_cons, runOps_nil, wanted_none, ob_some, bc_true, bc_false, x_move, x_assign, x_pick, asB_bool, ev_int, ev_bool, ev_nils, ev_tmp, ret_v, after_val, putT_some, putT_none, fput_fm, tget_hit, tget_miss, ne_eq, Nat.reduceEqDiff, not_false_eq_true, Nat.reduceLT, orE_some, x_binOp, bi_int, bi_lss, bi_leq, bi_gtr, bi_eql, bi_neq, bi_add, x_indexAddr, x_load, asPtr_ptr, x_convert, x_blen, evs_cons, evs_nil] <;> exact rfl)); (· (first | exact rput (by decide) | exact putT_none))))
      exact rfl
    apply AC.block
    refine (AC.loopM (fun m ρ h2 => ∃ i, i + m = L ∧ ∃ wv, ρ = fm 52 [(6, .int .i64 (i : Int)), (5, wv), (1, .int .i64 S), (0, .int .i64 n)] ∧ Own h2 wv (vals N i)) ?_ L _ _ ⟨0, by omega, .nils, rfl, .inl ⟨rfl, rfl⟩⟩).weak (FSub.fm rfl ?_) (Sub.refl _)
    rotate_left
    · simp [tget_cons]
    rintro m ρ h2 ⟨i, him, wv, rfl, how⟩
    by_cases hi : i < L
    · have hc := (hL2 i (by omega)).2 hi
      apply AC.seq
      apply AC.reg hP hX call0_ok
      · repeat (first | (apply rstep; (· (first | exact rfl | (simp only [List.toList_toArray, wanted_some, wants_t, wants_f, guardTmp, nth_eq, List.getElem?_cons_succ, List.getElem?_cons_zero, ob_some, tget_hit, tget_miss, ne_eq, Nat.reduceEqDiff, not_false_eq_true, Bool.not_true, Bool.not_false, decide_eq_true hc.1, decide_eq_true hc.2]))); (· (simp only [↓ob_some, ↓bc_true, ↓bc_false, ↓after_val, ↓orE_some, runOps_cons, runOps_nil, wanted_none, ob_some, bc_true, bc_false, x_move, x_assign, x_pick, asB_bool, ev_int, ev_bool, ev_nils, ev_tmp, ret_v, after_val, putT_some, putT_none, fput_fm, tget_hit, tget_miss, ne_eq, Nat.reduceEqDiff, not_false_eq_true, Nat.reduceLT, orE_some, x_binOp, bi_int, bi_lss, bi_leq, bi_gtr, bi_eql, bi_neq, bi_add, x_indexAddr, x_load, asPtr_ptr, x_convert, x_blen, evs_cons, evs_nil, decide_eq_true hc.1, decide_eq_true hc.2] <;> exact rfl)); (· (first | exact rput (by decide) | exact putT_none))) | (apply rskip; (· (first | exact rfl | (simp only [List.toList_toArray, wanted_some, wants_t, wants_f, guardTmp, nth_eq, List.getElem?_cons_succ, List.getElem?_cons_zero, ob_some, tget_hit, tget_miss, ne_eq, Nat.reduceEqDiff, not_false_eq_true, Bool.not_true, Bool.not_false, decide_eq_true hc.1, decide_eq_true hc.2]))); (· (first | exact rput (by decide) | exact putT_none))))
        exact rfl
      apply AC.next1
      · simp only [ev_tmp, tget_hit]
      show AC _ _ _ _ _
      have hi1 : IntKind.i64.wrap ((i : Int) + 1) = ((i + 1 : Nat) : Int) := wrap_fit (n := i + 1) (show i + 1 < 9223372036854775808 by omega)
      have hrem : intBin .rem .i64 (i : Int) .i64 8 = some (.int .i64 ((i % 8 : Nat) : Int)) := by
        rw [bi_rem (by decide)]; rfl
      have hmul : intBin .mul .i64 8 .i64 ((i % 8 : Nat) : Int) = some (.int .i64 ((8 * (i % 8) : Nat) : Int)) := by
        rw [bi_mul, show (8 : Int) * ((i % 8 : Nat) : Int) = ((8 * (i % 8) : Nat) : Int) by omega, wrap_fit (show 8 * (i % 8) < 9223372036854775808 by omega)]
      have hsub : intBin .sub .i64 56 .i64 ((8 * (i % 8) : Nat) : Int) = some (.int .i64 ((56 - 8 * (i % 8) : Nat) : Int)) := by
        rw [bi_sub, show (56 : Int) - ((8 * (i % 8) : Nat) : Int) = ((56 - 8 * (i % 8) : Nat) : Int) by omega, wrap_fit (show 56 - 8 * (i % 8) < 9223372036854775808 by omega)]
      have hshr : intBin .shr .u64 (N : Int) .i64 ((56 - 8 * (i % 8) : Nat) : Int) = some (.int .u64 ((N / 2 ^ (56 - 8 * (i % 8)) : Nat) : Int)) := bi_shr_u (show 56 - 8 * (i % 8) ≤ 64 by omega)
      have hquo : intBin .quo .i64 (i : Int) .i64 8 = some (.int .i64 ((i / 8 : Nat) : Int)) := by
        rw [bi_quo (by decide), show Int.tdiv (i : Int) 8 = ((i / 8 : Nat) : Int) from (Int.ofNat_tdiv i 8).symm, wrap_fit (show i / 8 < 9223372036854775808 by omega)]
      have hadd : ∀ a b : Nat, intBin .add .u8 ((a % 256 : Nat) : Int) .u8 ((b % 256 : Nat) : Int) = some (.int .u8 (((a % 256 + b) % 256 : Nat) : Int)) := by
        intro a b; rw [bi_add, ← Int.natCast_add, wrap_u8]; congr 3; omega
      obtain ⟨s', h3, e1, e2, e3, e4⟩ := append1 (P := Tryz.prog) (h := h2.new (.cells [.int .u8 (bv N i : Int)] true)) (s := wv) (v := .int .u8 (bv N i : Int)) (l := vals N i) (q := h2.next) (st := 22) (xt := 22)
        (how.turn (by rw [H.next_new]; omega) (fun b hb => by rw [H.get_new, if_neg (by omega)])) te22 u22 ei5 rfl (by rw [H.get_new, if_pos rfl]) (by rw [H.next_new]; omega) (by rw [vals_length]; omega)
        (fun b e => by
          rcases how with ⟨rfl, _⟩ | ⟨b', rfl, _, hlt⟩
          · cases e
          · cases e; omega)
      unfold bv at e1
      refine AC.seqM (fun ρ' h4 => h4 = h3 ∧ FSub (fm 52 [(6, .int .i64 (i : Int)), (5, s'), (1, .int .i64 S), (0, .int .i64 n)]) ρ') ?_ ?_
      · apply AC.block
        apply AC.reg1 hP hX call0_ok
        · repeat (first | (apply rstep; (· exact rfl); (· (simp only [↓ob_some, ↓bc_true, ↓bc_false, ↓after_val, ↓orE_some, runOps_cons, runOps_nil, wanted_none, ob_some, bc_true, bc_false, x_move, x_assign, x_pick, asB_bool, ev_int, ev_bool, ev_nils, ev_tmp, ret_v, after_val, putT_some, putT_none, fput_fm, tget_hit, tget_miss, ne_eq, Nat.reduceEqDiff, not_false_eq_true, Nat.reduceLT, orE_some, x_binOp, bi_int, bi_lss, bi_leq, bi_gtr, bi_eql, bi_neq, bi_add, x_indexAddr, x_load, asPtr_ptr, x_convert, x_blen, evs_cons, evs_nil, u22, u3, u23, u5, cv_int i64I, cv_int u64I, hN, hrem, hsub, hmul, hshr, hquo, wrap_u8, hadd, build1 te22 ei5, fill1_int, x_bappend, xa2, e1] <;> exact rfl)); (· (first | exact rput (by decide) | exact putT_none))))
          exact rfl
        exact ⟨rfl, FSub.fm rfl (by simp [tget_cons])⟩
      · rintro ρ' h4 ⟨rfl, u⟩
        refine AC.weak ?_ u (Sub.refl _)
        apply AC.reg1 hP hX call0_ok
        · repeat (first | (apply rstep; (· exact rfl); (· (simp only [↓ob_some, ↓bc_true, ↓bc_false, ↓after_val, ↓orE_some, runOps_cons, runOps_nil, wanted_none, ob_some, bc_true, bc_false, x_move, x_assign, x_pick, asB_bool, ev_int, ev_bool, ev_nils, ev_tmp, ret_v, after_val, putT_some, putT_none, fput_fm, tget_hit, tget_miss, ne_eq, Nat.reduceEqDiff, not_false_eq_true, Nat.reduceLT, orE_some, x_binOp, bi_int, bi_lss, bi_leq, bi_gtr, bi_eql, bi_neq, bi_add, x_indexAddr, x_load, asPtr_ptr, x_convert, x_blen, evs_cons, evs_nil, hi1] <;> exact rfl)); (· (first | exact rput (by decide) | exact putT_none))))
          exact rfl
        exact ⟨m - 1, _, _, by omega, ⟨i + 1, by omega, s', rfl, by rw [vals_succ]; exact e2⟩, FSub.fm rfl (by simp [tget_cons]), Sub.refl _⟩
    · have : i = L := by omega
      subst this
      have hc : ¬ ((i : Int) < S ∧ S ≤ 256) := fun e => hi ((hL2 i (by omega)).1 e)
      by_cases h1 : (i : Int) < S
      · have h2' : ¬ S ≤ 256 := fun e => hc ⟨h1, e⟩
        apply AC.seq
        apply AC.reg hP hX call0_ok
        · repeat (first | (apply rstep; (· (first | exact rfl | (simp only [List.toList_toArray, wanted_some, wants_t, wants_f, guardTmp, nth_eq, List.getElem?_cons_succ, List.getElem?_cons_zero, ob_some, tget_hit, tget_miss, ne_eq, Nat.reduceEqDiff, not_false_eq_true, Bool.not_true, Bool.not_false, decide_eq_true h1, decide_eq_false h2']))); (· (simp only [↓ob_some, ↓bc_true, ↓bc_false, ↓after_val, ↓orE_some, runOps_cons, runOps_nil, wanted_none, ob_some, bc_true, bc_false, x_move, x_assign, x_pick, asB_bool, ev_int, ev_bool, ev_nils, ev_tmp, ret_v, after_val, putT_some, putT_none, fput_fm, tget_hit, tget_miss, ne_eq, Nat.reduceEqDiff, not_false_eq_true, Nat.reduceLT, orE_some, x_binOp, bi_int, bi_lss, bi_leq, bi_gtr, bi_eql, bi_neq, bi_add, x_indexAddr, x_load, asPtr_ptr, x_convert, x_blen, evs_cons, evs_nil, decide_eq_true h1, decide_eq_false h2'] <;> exact rfl)); (· (first | exact rput (by decide) | exact putT_none))) | (apply rskip; (· (first | exact rfl | (simp only [List.toList_toArray, wanted_some, wants_t, wants_f, guardTmp, nth_eq, List.getElem?_cons_succ, List.getElem?_cons_zero, ob_some, tget_hit, tget_miss, ne_eq, Nat.reduceEqDiff, not_false_eq_true, Bool.not_true, Bool.not_false, decide_eq_true h1, decide_eq_false h2']))); (· (first | exact rput (by decide) | exact putT_none))))
          exact rfl
        apply AC.leave1
        · simp only [ev_tmp, tget_hit]
        exact ⟨wv, FSub.fm rfl (by simp [tget_cons]), how⟩
      · 
        apply AC.seq
        apply AC.reg hP hX call0_ok
        · repeat (first | (apply rstep; (· (first | exact rfl | (simp only [List.toList_toArray, wanted_some, wants_t, wants_f, guardTmp, nth_eq, List.getElem?_cons_succ, List.getElem?_cons_zero, ob_some, tget_hit, tget_miss, ne_eq, Nat.reduceEqDiff, not_false_eq_true, Bool.not_true, Bool.not_false, decide_eq_false h1]))); (· (simp only [↓ob_some, ↓bc_true, ↓bc_false, ↓after_val, ↓orE_some, runOps_cons, runOps_nil, wanted_none, ob_some, bc_true, bc_false, x_move, x_assign, x_pick, asB_bool, ev_int, ev_bool, ev_nils, ev_tmp, ret_v, after_val, putT_some, putT_none, fput_fm, tget_hit, tget_miss, ne_eq, Nat.reduceEqDiff, not_false_eq_true, Nat.reduceLT, orE_some, x_binOp, bi_int, bi_lss, bi_leq, bi_gtr, bi_eql, bi_neq, bi_add, x_indexAddr, x_load, asPtr_ptr, x_convert, x_blen, evs_cons, evs_nil, decide_eq_false h1] <;> exact rfl)); (· (first | exact rput (by decide) | exact putT_none))) | (apply rskip; (· (first | exact rfl | (simp only [List.toList_toArray, wanted_some, wants_t, wants_f, guardTmp, nth_eq, List.getElem?_cons_succ, List.getElem?_cons_zero, ob_some, tget_hit, tget_miss, ne_eq, Nat.reduceEqDiff, not_false_eq_true, Bool.not_true, Bool.not_false, decide_eq_false h1]))); (· (first | exact rput (by decide) | exact putT_none))))
          exact rfl
        apply AC.leave1
        · simp only [ev_tmp, tget_hit]
        exact ⟨wv, FSub.fm rfl (by simp [tget_cons]), how⟩
  rintro ρ' h' ⟨wv, u, how⟩
  refine AC.weak ?_ u (Sub.refl _)
  have hwlen : (bvs N L).length < 2 ^ 62 := by simp [bvs]; omega
  -- b := Block(n, size)
  apply AC.seq
  apply AC.ops
  apply AO.op hP hX
  · exact rfl
  · simp only [↓ob_some, ↓bc_true, ↓bc_false, ↓after_val, ↓orE_some, runOps_cons, runOps_nil, wanted_none, ob_some, bc_true, bc_false, x_move, x_assign, x_pick, asB_bool, ev_int, ev_bool, ev_nils, ev_tmp, ret_v, after_val, putT_some, putT_none, fput_fm, tget_hit, tget_miss, ne_eq, Nat.reduceEqDiff, not_false_eq_true, Nat.reduceLT, orE_some, x_binOp, bi_int, bi_lss, bi_leq, bi_gtr, bi_eql, bi_neq, bi_add, x_indexAddr, x_load, asPtr_ptr, x_convert, x_blen, evs_cons, evs_nil] <;> exact rfl
  · (first | exact rput (by decide) | exact putT_none)
  apply AO.op hP hX
  · exact rfl
  · simp only [↓ob_some, ↓bc_true, ↓bc_false, ↓after_val, ↓orE_some, runOps_cons, runOps_nil, wanted_none, ob_some, bc_true, bc_false, x_move, x_assign, x_pick, asB_bool, ev_int, ev_bool, ev_nils, ev_tmp, ret_v, after_val, putT_some, putT_none, fput_fm, tget_hit, tget_miss, ne_eq, Nat.reduceEqDiff, not_false_eq_true, Nat.reduceLT, orE_some, x_binOp, bi_int, bi_lss, bi_leq, bi_gtr, bi_eql, bi_neq, bi_add, x_indexAddr, x_load, asPtr_ptr, x_convert, x_blen, evs_cons, evs_nil] <;> exact rfl
  · (first | exact rput (by decide) | exact putT_none)
  apply AO.call hP hX
  · exact rfl
  · simp only [↓ob_some, ↓bc_true, ↓bc_false, ↓after_val, ↓orE_some, runOps_cons, runOps_nil, wanted_none, ob_some, bc_true, bc_false, x_move, x_assign, x_pick, asB_bool, ev_int, ev_bool, ev_nils, ev_tmp, ret_v, after_val, putT_some, putT_none, fput_fm, tget_hit, tget_miss, ne_eq, Nat.reduceEqDiff, not_false_eq_true, Nat.reduceLT, orE_some, x_binOp, bi_int, bi_lss, bi_leq, bi_gtr, bi_eql, bi_neq, bi_add, x_indexAddr, x_load, asPtr_ptr, x_convert, x_blen, evs_cons, evs_nil, x_call, ev_func, fnOf_fn, callF_body Tryz.func4 rfl, List.nil_append, List.append_nil] <;> exact rfl
  · exact block_ok hP hX n N hN S
  rintro b h1 hb1
  refine ⟨_, (by first | exact rput (by decide) | exact putT_none), ?_⟩
  apply AO.op hP hX
  · exact rfl
  · simp only [↓ob_some, ↓bc_true, ↓bc_false, ↓after_val, ↓orE_some, runOps_cons, runOps_nil, wanted_none, ob_some, bc_true, bc_false, x_move, x_assign, x_pick, asB_bool, ev_int, ev_bool, ev_nils, ev_tmp, ret_v, after_val, putT_some, putT_none, fput_fm, tget_hit, tget_miss, ne_eq, Nat.reduceEqDiff, not_false_eq_true, Nat.reduceLT, orE_some, x_binOp, bi_int, bi_lss, bi_leq, bi_gtr, bi_eql, bi_neq, bi_add, x_indexAddr, x_load, asPtr_ptr, x_convert, x_blen, evs_cons, evs_nil] <;> exact rfl
  · (first | exact rput (by decide) | exact putT_none)
  apply AO.nil
  obtain ⟨hB1, hn1, hg1, hid1⟩ := hblk _ _ _ hb1
  have how1 : Own h1 wv (vals N L) := how.turn hn1 (fun c hc => hg1 c (by omega))
  -- ok := SameBytes(b, want)
  show AC _ _ _ _ _
  apply AC.seq
  apply AC.ops
  apply AO.op hP hX
  · exact rfl
  · simp only [↓ob_some, ↓bc_true, ↓bc_false, ↓after_val, ↓orE_some, runOps_cons, runOps_nil, wanted_none, ob_some, bc_true, bc_false, x_move, x_assign, x_pick, asB_bool, ev_int, ev_bool, ev_nils, ev_tmp, ret_v, after_val, putT_some, putT_none, fput_fm, tget_hit, tget_miss, ne_eq, Nat.reduceEqDiff, not_false_eq_true, Nat.reduceLT, orE_some, x_binOp, bi_int, bi_lss, bi_leq, bi_gtr, bi_eql, bi_neq, bi_add, x_indexAddr, x_load, asPtr_ptr, x_convert, x_blen, evs_cons, evs_nil] <;> exact rfl
  · (first | exact rput (by decide) | exact putT_none)
  apply AO.op hP hX
  · exact rfl
  · simp only [↓ob_some, ↓bc_true, ↓bc_false, ↓after_val, ↓orE_some, runOps_cons, runOps_nil, wanted_none, ob_some, bc_true, bc_false, x_move, x_assign, x_pick, asB_bool, ev_int, ev_bool, ev_nils, ev_tmp, ret_v, after_val, putT_some, putT_none, fput_fm, tget_hit, tget_miss, ne_eq, Nat.reduceEqDiff, not_false_eq_true, Nat.reduceLT, orE_some, x_binOp, bi_int, bi_lss, bi_leq, bi_gtr, bi_eql, bi_neq, bi_add, x_indexAddr, x_load, asPtr_ptr, x_convert, x_blen, evs_cons, evs_nil] <;> exact rfl
  · (first | exact rput (by decide) | exact putT_none)
  apply AO.call hP hX
  · exact rfl
  · simp only [↓ob_some, ↓bc_true, ↓bc_false, ↓after_val, ↓orE_some, runOps_cons, runOps_nil, wanted_none, ob_some, bc_true, bc_false, x_move, x_assign, x_pick, asB_bool, ev_int, ev_bool, ev_nils, ev_tmp, ret_v, after_val, putT_some, putT_none, fput_fm, tget_hit, tget_miss, ne_eq, Nat.reduceEqDiff, not_false_eq_true, Nat.reduceLT, orE_some, x_binOp, bi_int, bi_lss, bi_leq, bi_gtr, bi_eql, bi_neq, bi_add, x_indexAddr, x_load, asPtr_ptr, x_convert, x_blen, evs_cons, evs_nil, x_call, ev_func, fnOf_fn, callF_body Tryz.func5 rfl, List.nil_append, List.append_nil] <;> exact rfl
  · exact same_ok hP hX (vals_u8s N L ▸ hB1.slAt) (vals_u8s N L ▸ how1.slAt) hwlen
  rintro ok h2 ⟨hok, hn2, hg2⟩
  refine ⟨_, (by first | exact rput (by decide) | exact putT_none), ?_⟩
  apply AO.op hP hX
  · exact rfl
  · simp only [↓ob_some, ↓bc_true, ↓bc_false, ↓after_val, ↓orE_some, runOps_cons, runOps_nil, wanted_none, ob_some, bc_true, bc_false, x_move, x_assign, x_pick, asB_bool, ev_int, ev_bool, ev_nils, ev_tmp, ret_v, after_val, putT_some, putT_none, fput_fm, tget_hit, tget_miss, ne_eq, Nat.reduceEqDiff, not_false_eq_true, Nat.reduceLT, orE_some, x_binOp, bi_int, bi_lss, bi_leq, bi_gtr, bi_eql, bi_neq, bi_add, x_indexAddr, x_load, asPtr_ptr, x_convert, x_blen, evs_cons, evs_nil] <;> exact rfl
  · (first | exact rput (by decide) | exact putT_none)
  apply AO.nil
  rw [decide_eq_true rfl] at hok
  subst hok
  have hB2 : Blk h2 b (vals N L) := by
    rcases hB1 with ⟨rfl, e⟩ | ⟨c, rfl, hc, hlt⟩
    · exact .inl ⟨rfl, e⟩
    · exact .inr ⟨c, rfl, by rw [hg2]; exact hc, by omega⟩
  have how2 : Own h2 wv (vals N L) := how1.turn hn2 (fun c _ => hg2 c)
  -- OverBytes(b)
  show AC _ _ _ _ _
  apply AC.seq
  apply AC.ops
  apply AO.op hP hX
  · exact rfl
  · simp only [↓ob_some, ↓bc_true, ↓bc_false, ↓after_val, ↓orE_some, runOps_cons, runOps_nil, wanted_none, ob_some, bc_true, bc_false, x_move, x_assign, x_pick, asB_bool, ev_int, ev_bool, ev_nils, ev_tmp, ret_v, after_val, putT_some, putT_none, fput_fm, tget_hit, tget_miss, ne_eq, Nat.reduceEqDiff, not_false_eq_true, Nat.reduceLT, orE_some, x_binOp, bi_int, bi_lss, bi_leq, bi_gtr, bi_eql, bi_neq, bi_add, x_indexAddr, x_load, asPtr_ptr, x_convert, x_blen, evs_cons, evs_nil] <;> exact rfl
  · (first | exact rput (by decide) | exact putT_none)
  apply AO.call hP hX
  · exact rfl
  · simp only [↓ob_some, ↓bc_true, ↓bc_false, ↓after_val, ↓orE_some, runOps_cons, runOps_nil, wanted_none, ob_some, bc_true, bc_false, x_move, x_assign, x_pick, asB_bool, ev_int, ev_bool, ev_nils, ev_tmp, ret_v, after_val, putT_some, putT_none, fput_fm, tget_hit, tget_miss, ne_eq, Nat.reduceEqDiff, not_false_eq_true, Nat.reduceLT, orE_some, x_binOp, bi_int, bi_lss, bi_leq, bi_gtr, bi_eql, bi_neq, bi_add, x_indexAddr, x_load, asPtr_ptr, x_convert, x_blen, evs_cons, evs_nil, x_call, ev_func, fnOf_fn, callF_body Tryz.func6 rfl, List.nil_append, List.append_nil] <;> exact rfl
  · exact over_ok hP hX hB2 (by rw [vals_length]; exact hL1)
  rintro r h3 ⟨rfl, hn3, hg3⟩
  refine ⟨_, (by first | exact rput (by decide) | exact putT_none), ?_⟩
  apply AO.nil
  have how3 : Own h3 wv (vals N L) := by
    rcases how2 with ⟨rfl, e⟩ | ⟨c, rfl, hc, hlt⟩
    · exact .inl ⟨rfl, e⟩
    · refine .inr ⟨c, rfl, ?_, by omega⟩
      rw [hg3 c hlt]
      · exact hc
      · rintro ⟨k, hk⟩
        have := hid1 c k hk
        subst this
        rcases how with ⟨e, _⟩ | ⟨c', e, _, hlt'⟩
        · cases e
        · cases e; omega
  -- the last line
  show AC _ _ _ _ _
  apply AC.seq
  apply AC.ops
  apply AO.op hP hX
  · exact rfl
  · simp only [↓ob_some, ↓bc_true, ↓bc_false, ↓after_val, ↓orE_some, runOps_cons, runOps_nil, wanted_none, ob_some, bc_true, bc_false, x_move, x_assign, x_pick, asB_bool, ev_int, ev_bool, ev_nils, ev_tmp, ret_v, after_val, putT_some, putT_none, fput_fm, tget_hit, tget_miss, ne_eq, Nat.reduceEqDiff, not_false_eq_true, Nat.reduceLT, orE_some, x_binOp, bi_int, bi_lss, bi_leq, bi_gtr, bi_eql, bi_neq, bi_add, x_indexAddr, x_load, asPtr_ptr, x_convert, x_blen, evs_cons, evs_nil] <;> exact rfl
  · (first | exact rput (by decide) | exact putT_none)
  apply AO.op hP hX
  · exact rfl
  · simp only [↓ob_some, ↓bc_true, ↓bc_false, ↓after_val, ↓orE_some, runOps_cons, runOps_nil, wanted_none, ob_some, bc_true, bc_false, x_move, x_assign, x_pick, asB_bool, ev_int, ev_bool, ev_nils, ev_tmp, ret_v, after_val, putT_some, putT_none, fput_fm, tget_hit, tget_miss, ne_eq, Nat.reduceEqDiff, not_false_eq_true, Nat.reduceLT, orE_some, x_binOp, bi_int, bi_lss, bi_leq, bi_gtr, bi_eql, bi_neq, bi_add, x_indexAddr, x_load, asPtr_ptr, x_convert, x_blen, evs_cons, evs_nil] <;> exact rfl
  · (first | exact rput (by decide) | exact putT_none)
  apply AO.op hP hX
  · simp only [List.toList_toArray, wanted_some, wants_t, wants_f, guardTmp, nth_eq, List.getElem?_cons_succ, List.getElem?_cons_zero, ob_some, tget_hit, tget_miss, ne_eq, Nat.reduceEqDiff, not_false_eq_true]
  · simp only [↓ob_some, ↓bc_true, ↓bc_false, ↓after_val, ↓orE_some, runOps_cons, runOps_nil, wanted_none, ob_some, bc_true, bc_false, x_move, x_assign, x_pick, asB_bool, ev_int, ev_bool, ev_nils, ev_tmp, ret_v, after_val, putT_some, putT_none, fput_fm, tget_hit, tget_miss, ne_eq, Nat.reduceEqDiff, not_false_eq_true, Nat.reduceLT, orE_some, x_binOp, bi_int, bi_lss, bi_leq, bi_gtr, bi_eql, bi_neq, bi_add, x_indexAddr, x_load, asPtr_ptr, x_convert, x_blen, evs_cons, evs_nil] <;> exact rfl
  · (first | exact rput (by decide) | exact putT_none)
  apply AO.op hP hX
  · simp only [List.toList_toArray, wanted_some, wants_t, wants_f, guardTmp, nth_eq, List.getElem?_cons_succ, List.getElem?_cons_zero, ob_some, tget_hit, tget_miss, ne_eq, Nat.reduceEqDiff, not_false_eq_true]
  · simp only [↓ob_some, ↓bc_true, ↓bc_false, ↓after_val, ↓orE_some, runOps_cons, runOps_nil, wanted_none, ob_some, bc_true, bc_false, x_move, x_assign, x_pick, asB_bool, ev_int, ev_bool, ev_nils, ev_tmp, ret_v, after_val, putT_some, putT_none, fput_fm, tget_hit, tget_miss, ne_eq, Nat.reduceEqDiff, not_false_eq_true, Nat.reduceLT, orE_some, x_binOp, bi_int, bi_lss, bi_leq, bi_gtr, bi_eql, bi_neq, bi_add, x_indexAddr, x_load, asPtr_ptr, x_convert, x_blen, evs_cons, evs_nil] <;> exact rfl
  · (first | exact rput (by decide) | exact putT_none)
  apply AO.call hP hX
  · simp only [List.toList_toArray, wanted_some, wants_t, wants_f, guardTmp, nth_eq, List.getElem?_cons_succ, List.getElem?_cons_zero, ob_some, tget_hit, tget_miss, ne_eq, Nat.reduceEqDiff, not_false_eq_true]
  · simp only [↓ob_some, ↓bc_true, ↓bc_false, ↓after_val, ↓orE_some, runOps_cons, runOps_nil, wanted_none, ob_some, bc_true, bc_false, x_move, x_assign, x_pick, asB_bool, ev_int, ev_bool, ev_nils, ev_tmp, ret_v, after_val, putT_some, putT_none, fput_fm, tget_hit, tget_miss, ne_eq, Nat.reduceEqDiff, not_false_eq_true, Nat.reduceLT, orE_some, x_binOp, bi_int, bi_lss, bi_leq, bi_gtr, bi_eql, bi_neq, bi_add, x_indexAddr, x_load, asPtr_ptr, x_convert, x_blen, evs_cons, evs_nil, x_call, ev_func, fnOf_fn, callF_body Tryz.func4 rfl, List.nil_append, List.append_nil] <;> exact rfl
  · exact block_ok hP hX n N hN S
  rintro b2 h4 hb4
  refine ⟨_, (by first | exact rput (by decide) | exact putT_none), ?_⟩
  obtain ⟨hB4, hn4, hg4, _⟩ := hblk _ _ _ hb4
  have how4 : Own h4 wv (vals N L) := how3.turn hn4 (fun c hc => hg4 c (by omega))
  apply AO.op hP hX
  · simp only [List.toList_toArray, wanted_some, wants_t, wants_f, guardTmp, nth_eq, List.getElem?_cons_succ, List.getElem?_cons_zero, ob_some, tget_hit, tget_miss, ne_eq, Nat.reduceEqDiff, not_false_eq_true]
  · simp only [↓ob_some, ↓bc_true, ↓bc_false, ↓after_val, ↓orE_some, runOps_cons, runOps_nil, wanted_none, ob_some, bc_true, bc_false, x_move, x_assign, x_pick, asB_bool, ev_int, ev_bool, ev_nils, ev_tmp, ret_v, after_val, putT_some, putT_none, fput_fm, tget_hit, tget_miss, ne_eq, Nat.reduceEqDiff, not_false_eq_true, Nat.reduceLT, orE_some, x_binOp, bi_int, bi_lss, bi_leq, bi_gtr, bi_eql, bi_neq, bi_add, x_indexAddr, x_load, asPtr_ptr, x_convert, x_blen, evs_cons, evs_nil] <;> exact rfl
  · (first | exact rput (by decide) | exact putT_none)
  apply AO.call hP hX
  · simp only [List.toList_toArray, wanted_some, wants_t, wants_f, guardTmp, nth_eq, List.getElem?_cons_succ, List.getElem?_cons_zero, ob_some, tget_hit, tget_miss, ne_eq, Nat.reduceEqDiff, not_false_eq_true]
  · simp only [↓ob_some, ↓bc_true, ↓bc_false, ↓after_val, ↓orE_some, runOps_cons, runOps_nil, wanted_none, ob_some, bc_true, bc_false, x_move, x_assign, x_pick, asB_bool, ev_int, ev_bool, ev_nils, ev_tmp, ret_v, after_val, putT_some, putT_none, fput_fm, tget_hit, tget_miss, ne_eq, Nat.reduceEqDiff, not_false_eq_true, Nat.reduceLT, orE_some, x_binOp, bi_int, bi_lss, bi_leq, bi_gtr, bi_eql, bi_neq, bi_add, x_indexAddr, x_load, asPtr_ptr, x_convert, x_blen, evs_cons, evs_nil, x_call, ev_func, fnOf_fn, callF_body Tryz.func5 rfl, List.nil_append, List.append_nil] <;> exact rfl
  · exact same_ok hP hX (vals_u8s N L ▸ hB4.slAt) (vals_u8s N L ▸ how4.slAt) hwlen
  rintro ok2 h5 ⟨hok2, hn5, hg5⟩
  refine ⟨_, (by first | exact rput (by decide) | exact putT_none), ?_⟩
  rw [decide_eq_true rfl] at hok2
  subst hok2
  apply AO.op hP hX
  · exact rfl
  · simp only [↓ob_some, ↓bc_true, ↓bc_false, ↓after_val, ↓orE_some, runOps_cons, runOps_nil, wanted_none, ob_some, bc_true, bc_false, x_move, x_assign, x_pick, asB_bool, ev_int, ev_bool, ev_nils, ev_tmp, ret_v, after_val, putT_some, putT_none, fput_fm, tget_hit, tget_miss, ne_eq, Nat.reduceEqDiff, not_false_eq_true, Nat.reduceLT, orE_some, x_binOp, bi_int, bi_lss, bi_leq, bi_gtr, bi_eql, bi_neq, bi_add, x_indexAddr, x_load, asPtr_ptr, x_convert, x_blen, evs_cons, evs_nil] <;> exact rfl
  · (first | exact rput (by decide) | exact putT_none)
  apply AO.op hP hX
  · exact rfl
  · simp only [↓ob_some, ↓bc_true, ↓bc_false, ↓after_val, ↓orE_some, runOps_cons, runOps_nil, wanted_none, ob_some, bc_true, bc_false, x_move, x_assign, x_pick, asB_bool, ev_int, ev_bool, ev_nils, ev_tmp, ret_v, after_val, putT_some, putT_none, fput_fm, tget_hit, tget_miss, ne_eq, Nat.reduceEqDiff, not_false_eq_true, Nat.reduceLT, orE_some, x_binOp, bi_int, bi_lss, bi_leq, bi_gtr, bi_eql, bi_neq, bi_add, x_indexAddr, x_load, asPtr_ptr, x_convert, x_blen, evs_cons, evs_nil] <;> exact rfl
  · (first | exact rput (by decide) | exact putT_none)
  apply AO.call hP hX
  · simp only [List.toList_toArray, wanted_some, wants_t, wants_f, guardTmp, nth_eq, List.getElem?_cons_succ, List.getElem?_cons_zero, ob_some, tget_hit, tget_miss, ne_eq, Nat.reduceEqDiff, not_false_eq_true]
  · simp only [↓ob_some, ↓bc_true, ↓bc_false, ↓after_val, ↓orE_some, runOps_cons, runOps_nil, wanted_none, ob_some, bc_true, bc_false, x_move, x_assign, x_pick, asB_bool, ev_int, ev_bool, ev_nils, ev_tmp, ret_v, after_val, putT_some, putT_none, fput_fm, tget_hit, tget_miss, ne_eq, Nat.reduceEqDiff, not_false_eq_true, Nat.reduceLT, orE_some, x_binOp, bi_int, bi_lss, bi_leq, bi_gtr, bi_eql, bi_neq, bi_add, x_indexAddr, x_load, asPtr_ptr, x_convert, x_blen, evs_cons, evs_nil, x_call, ev_func, fnOf_fn, callF_body Tryz.func7 rfl, List.nil_append, List.append_nil] <;> exact rfl
  · exact haw _
  rintro aw h6 ⟨rfl, rfl⟩
  refine ⟨_, (by first | exact rput (by decide) | exact putT_none), ?_⟩
  apply AO.op hP hX
  · exact rfl
  · simp only [↓ob_some, ↓bc_true, ↓bc_false, ↓after_val, ↓orE_some, runOps_cons, runOps_nil, wanted_none, ob_some, bc_true, bc_false, x_move, x_assign, x_pick, asB_bool, ev_int, ev_bool, ev_nils, ev_tmp, ret_v, after_val, putT_some, putT_none, fput_fm, tget_hit, tget_miss, ne_eq, Nat.reduceEqDiff, not_false_eq_true, Nat.reduceLT, orE_some, x_binOp, bi_int, bi_lss, bi_leq, bi_gtr, bi_eql, bi_neq, bi_add, x_indexAddr, x_load, asPtr_ptr, x_convert, x_blen, evs_cons, evs_nil] <;> exact rfl
  · (first | exact rput (by decide) | exact putT_none)
  apply AO.op hP hX
  · exact rfl
  · simp only [↓ob_some, ↓bc_true, ↓bc_false, ↓after_val, ↓orE_some, runOps_cons, runOps_nil, wanted_none, ob_some, bc_true, bc_false, x_move, x_assign, x_pick, asB_bool, ev_int, ev_bool, ev_nils, ev_tmp, ret_v, after_val, putT_some, putT_none, fput_fm, tget_hit, tget_miss, ne_eq, Nat.reduceEqDiff, not_false_eq_true, Nat.reduceLT, orE_some, x_binOp, bi_int, bi_lss, bi_leq, bi_gtr, bi_eql, bi_neq, bi_add, x_indexAddr, x_load, asPtr_ptr, x_convert, x_blen, evs_cons, evs_nil] <;> exact rfl
  · (first | exact rput (by decide) | exact putT_none)
  apply AO.nil
  exact AC.ret ⟨rfl, _, res1 (t := 4) rfl (tget_hit ..), rfl⟩

end Go.Ab.T
