/- The walk of sum.step: the sum of bytes, bit by bit. -/
import Derived.Test.YtleafkdgnlngmaaGreatDoorSiFacts
set_option linter.unusedSimpArgs false
set_option linter.unusedVariables false
namespace Go.Ab.T
open Go Go.Ab Go.Proofs
noncomputable def st8 (r : Nat) : Nat := bc (Nat.beq (Nat.land r 1) 1) (Nat.xor (Nat.div r 2) 2197175160) (Nat.div r 2)
noncomputable def crcB (r : Nat) (b : Nat) : Nat := st8 (st8 (st8 (st8 (st8 (st8 (st8 (st8 (Nat.xor r b))))))))
noncomputable def crcL (l : List UInt8) : Nat → Nat := List.rec (fun r => r) (fun b _ ih r => ih (crcB r b.toNat)) l

theorem crc_snoc (l : List UInt8) (b : UInt8) : ∀ r, crcL (l ++ [b]) r = crcB (crcL l r) b.toNat := by
  induction l with
  | nil => intro r; rfl
  | cons a l ih => intro r; exact ih _
theorem st8_lt {r : Nat} (h : r < 2^32) : st8 r < 2^32 := by
  unfold st8
  cases hb : Nat.beq (Nat.land r 1) 1 with
  | true => exact Nat.xor_lt_two_pow (show r / 2 < 2^32 by omega) (by decide)
  | false => show r / 2 < 2^32; omega
theorem crcB_lt {r b : Nat} (h : r < 2^32) (hb : b < 256) : crcB r b < 2^32 := by
  unfold crcB
  repeat apply st8_lt
  exact Nat.xor_lt_two_pow h (by omega)
theorem crcL_lt (l : List UInt8) : ∀ {r : Nat}, r < 2^32 → crcL l r < 2^32 := by
  induction l with
  | nil => intro r h; exact h
  | cons a l ih => intro r h; exact ih (crcB_lt h a.toNat_lt)
noncomputable def st8n (j : Nat) (r : Nat) : Nat := Nat.rec r (fun _ x => st8 x) j
theorem st8n_lt {r : Nat} (h : r < 2^32) : ∀ j, st8n j r < 2^32
  | 0 => h
  | j + 1 => st8_lt (st8n_lt h j)
variable [Th] {X : Ext} {h : H}
set_option maxHeartbeats 400000 in
theorem step_ok (hP : POk Tryz.prog) (hX : XOk Tryz.prog X) {s : AV} {bs : List UInt8} (hs : bytesOf h s = some bs) (hbs : bs.length < 2^62) (r : Nat) (hr : r < 2^32) :
    ACall Tryz.prog 270 [.int .u32 r, s] h fun v h' => v = .int .u32 (crcL bs r) ∧ h' = h := by
  have hsl := SlAt.of_bytes hs
  obtain ⟨n, hn, hln⟩ := hsl.len
  have hns := hsl.noStr
  refine ACall.body Tryz.func270 rfl (ρ := fm 31 [(1, s), (0, .int .u32 r)]) (entry2 Tryz.ntmps270 (by decide)) ?_
  apply AC.reg hP hX call0_ok
  · simp only [runOps_cons, runOps_nil, wanted_none, ob_some, bc_true, x_assign, ev_int, ret_v, after_val, putT_some]
    rw [fput_fm (by decide)]; rfl
  have hlen : n = bs.length := by simpa using hln.symm
  apply AC.seq
  apply AC.reg hP hX call0_ok
  · simp only [runOps_cons, runOps_nil, wanted_none, ob_some, bc_true, x_move, ev_int, ev_tmp, ret_v, after_val, putT_some, fput_fm, tget_hit, tget_miss, ne_eq, Nat.reduceEqDiff, not_false_eq_true, Nat.reduceLT, x_blen, evs_cons, evs_nil, len_slice u22 hn hns, orE_some]
    exact rfl
  apply AC.block
  refine (AC.loopM (fun m ρ h' => ∃ i, i + m = n ∧ h' = h ∧ ρ = fm 31 [(10, .int .i64 (i : Int)), (9, .int .i64 (n : Int)), (8, s), (0, .int .u32 (crcL (bs.take i) r))]) ?_ n _ h ⟨0, by omega, rfl, rfl⟩).weak (FSub.fm rfl ?_) (Sub.refl h)
  · rintro m ρ h' ⟨i, him, rfl, rfl⟩
    apply AC.reg hP hX call0_ok
    · simp only [runOps_cons, runOps_nil, wanted_none, ob_some, bc_true, x_move, ev_int, ev_tmp, ret_v, after_val, putT_some, fput_fm, tget_hit, tget_miss, ne_eq, Nat.reduceEqDiff, not_false_eq_true, Nat.reduceLT, orE_some, x_binOp, bi_int, bi_lss]
      exact rfl
    by_cases hi : i < n
    · apply AC.next
      · simp only [ev_tmp, tget_hit]; rw [decide_eq_true (by omega)]
      refine AC.seqM (fun ρ' h2 => h2 = h' ∧ FSub (fm 31 [(10, .int .i64 (i : Int)), (9, .int .i64 (n : Int)), (8, s), (0, .int .u32 (crcL (bs.take (i + 1)) r))]) ρ') ?_ ?_
      apply AC.block
      have hne : bs.map (fun b => AV.int .u8 (b.toNat : Int)) ≠ [] := by intro e; rw [e] at hln; simp at hln; omega
      obtain ⟨b, o, n', cap, ex, rfl, hl2, hg⟩ := hsl.sl hne
      have : n' = n := by rw [hln] at hl2; omega
      subst this
      have hcell := hg i (by omega)
      have hbi : i < bs.length := by omega
      have hcell' : loadCell h' b (o + i) = some (.int .u8 ((bs[i].toNat : Nat) : Int)) := by rw [hcell]; simp [hbi]
      have hx : bs[i].toNat < 256 := bs[i].toNat_lt
      generalize hxe : bs[i].toNat = x at *
      have hR : crcL (bs.take i) r < 2^32 := crcL_lt _ hr
      have hnext : crcL (bs.take (i + 1)) r = st8n 8 (crcL (bs.take i) r ^^^ x) := by
        rw [List.take_succ_eq_append_getElem hbi, crc_snoc, hxe]; rfl
      generalize crcL (bs.take i) r = R at *
      apply AC.reg hP hX call0_ok
      · simp only [runOps_cons, runOps_nil, wanted_none, ob_some, bc_true, x_move, x_assign, ev_int, ev_tmp, ret_v, after_val, putT_some, fput_fm, tget_hit, tget_miss, ne_eq, Nat.reduceEqDiff, not_false_eq_true, Nat.reduceLT, orE_some, x_binOp, bi_int, bi_lss, bi_eql, x_indexAddr, x_load, asPtr_ptr, x_convert, u22, asIdx_nat, ix_slice ts5 hi, load1 tg5, Nat.mul_one, hcell']
        exact rfl
      apply AC.reg hP hX call0_ok
      · simp only [runOps_cons, runOps_nil, wanted_none, ob_some, bc_true, x_move, x_assign, ev_int, ev_tmp, ret_v, after_val, putT_some, fput_fm, tget_hit, tget_miss, ne_eq, Nat.reduceEqDiff, not_false_eq_true, Nat.reduceLT, orE_some, x_binOp, bi_int, bi_lss, bi_eql, x_indexAddr, x_load, asPtr_ptr, x_convert, u5, u241, cv_int (show isIntD (.int .u8) = true from rfl), wrap_fit (show x < halfK .u32 from Nat.lt_of_lt_of_le hx (by decide)), bi_xor_u (k := .u32) rfl hR (show x < modK .u32 from Nat.lt_of_lt_of_le hx (by decide))]
        exact rfl
      have hR0 : R ^^^ x < 2^32 := Nat.xor_lt_two_pow hR (by omega)
      generalize R ^^^ x = R0 at *
      apply AC.reg hP hX call0_ok
      · simp only [runOps_cons, runOps_nil, wanted_none, ob_some, bc_true, x_move, x_assign, ev_int, ev_tmp, ret_v, after_val, putT_some, fput_fm, tget_hit, tget_miss, ne_eq, Nat.reduceEqDiff, not_false_eq_true, Nat.reduceLT, orE_some, x_binOp, bi_int, bi_lss, bi_eql, x_indexAddr, x_load, asPtr_ptr, x_convert]
        exact rfl
      apply AC.block
      refine (AC.loopM (fun m ρ h2 => ∃ j, j + m = 8 ∧ h2 = h' ∧ ρ = fm 31 [(18, .int .i64 (j : Int)), (10, .int .i64 (i : Int)), (9, .int .i64 (n' : Int)), (8, .sl b o n' cap 1 ex), (0, .int .u32 (st8n j R0))]) ?_ 8 _ h' ⟨0, rfl, rfl, rfl⟩).weak (FSub.fm rfl ?_) (Sub.refl h')
      · rintro m2 ρ h2 ⟨j, hjm, rfl, rfl⟩
        apply AC.reg hP hX call0_ok
        · simp only [runOps_cons, runOps_nil, wanted_none, ob_some, bc_true, x_move, x_assign, ev_int, ev_tmp, ret_v, after_val, putT_some, fput_fm, tget_hit, tget_miss, ne_eq, Nat.reduceEqDiff, not_false_eq_true, Nat.reduceLT, orE_some, x_binOp, bi_int, bi_lss, bi_eql, x_indexAddr, x_load, asPtr_ptr, x_convert]
          exact rfl
        by_cases hj : j < 8
        · apply AC.next
          · simp only [ev_tmp, tget_hit]; rw [decide_eq_true (by omega)]
          have hRj := st8n_lt hR0 j
          have hsucc : st8n (j + 1) R0 = st8 (st8n j R0) := rfl
          generalize st8n j R0 = Q at *
          have hand : intBin .and .u32 (Q : Int) .u32 1 = some (.int .u32 ((Q &&& 1 : Nat) : Int)) := bi_and_u rfl hRj (by decide)
          have hshr : intBin .shr .u32 (Q : Int) .u64 1 = some (.int .u32 ((Q / 2 : Nat) : Int)) := bi_shr_u (n := 1) (by decide)
          have hQ2 : Q / 2 < 2 ^ 32 := by omega
          have hxor : intBin .xor .u32 ((Q / 2 : Nat) : Int) .u32 2197175160 = some (.int .u32 ((Q / 2 ^^^ 2197175160 : Nat) : Int)) := bi_xor_u (b := 2197175160) rfl hQ2 (by decide)
          have hj1 : IntKind.i64.wrap ((j : Int) + 1) = ((j + 1 : Nat) : Int) := wrap_fit (n := j + 1) (show j + 1 < 9223372036854775808 by omega)
          refine AC.seqM (fun ρ' h' => h' = h2 ∧ FSub (fm 31 [(18, .int .i64 (j : Int)), (10, .int .i64 (i : Int)), (9, .int .i64 (n' : Int)), (8, .sl b o n' cap 1 ex), (0, .int .u32 (st8 Q))]) ρ') ?_ ?_
          · apply AC.block
            apply AC.reg hP hX call0_ok
            · simp only [runOps_cons, runOps_nil, wanted_none, ob_some, bc_true, x_move, x_assign, ev_int, ev_tmp, ret_v, after_val, putT_some, fput_fm, tget_hit, tget_miss, ne_eq, Nat.reduceEqDiff, not_false_eq_true, Nat.reduceLT, orE_some, x_binOp, bi_int, bi_lss, bi_eql, bi_add, x_indexAddr, x_load, asPtr_ptr, x_convert, hand]
              exact rfl
            apply AC.reg hP hX call0_ok
            · simp only [runOps_cons, runOps_nil, wanted_none, ob_some, bc_true, x_move, x_assign, ev_int, ev_tmp, ret_v, after_val, putT_some, fput_fm, tget_hit, tget_miss, ne_eq, Nat.reduceEqDiff, not_false_eq_true, Nat.reduceLT, orE_some, x_binOp, bi_int, bi_lss, bi_eql, bi_add, x_indexAddr, x_load, asPtr_ptr, x_convert, hshr]
              exact rfl
            apply AC.reg hP hX call0_ok
            · simp only [runOps_cons, runOps_nil, wanted_none, ob_some, bc_true, x_move, x_assign, ev_int, ev_tmp, ret_v, after_val, putT_some, fput_fm, tget_hit, tget_miss, ne_eq, Nat.reduceEqDiff, not_false_eq_true, Nat.reduceLT, orE_some, x_binOp, bi_int, bi_lss, bi_eql, bi_add, x_indexAddr, x_load, asPtr_ptr, x_convert]
              exact rfl
            by_cases hodd : Q &&& 1 = 1
            · apply AC.cond (t := true)
              · simp only [ev_tmp, tget_hit]; rw [decide_eq_true (by omega)]
              apply AC.reg1 hP hX call0_ok
              · simp only [runOps_cons, runOps_nil, wanted_none, ob_some, bc_true, x_move, x_assign, ev_int, ev_tmp, ret_v, after_val, putT_some, fput_fm, tget_hit, tget_miss, ne_eq, Nat.reduceEqDiff, not_false_eq_true, Nat.reduceLT, orE_some, x_binOp, bi_int, bi_lss, bi_eql, bi_add, x_indexAddr, x_load, asPtr_ptr, x_convert, hxor]
                exact rfl
              refine ⟨rfl, FSub.fm rfl ?_⟩
              have : st8 Q = Q / 2 ^^^ 2197175160 := by
                unfold st8; rw [show Nat.beq (Nat.land Q 1) 1 = true from beq_t.2 hodd]; rfl
              simp [tget_cons, this]
            · apply AC.cond (t := false)
              · simp only [ev_tmp, tget_hit]; rw [decide_eq_false (by omega)]
              apply AC.skip
              refine ⟨rfl, FSub.fm rfl ?_⟩
              have : st8 Q = Q / 2 := by
                unfold st8; rw [show Nat.beq (Nat.land Q 1) 1 = false from beq_f.2 hodd]; rfl
              simp [tget_cons, this]
          · rintro ρ' h' ⟨rfl, u⟩
            refine AC.weak ?_ u (Sub.refl _)
            apply AC.reg1 hP hX call0_ok
            · simp only [runOps_cons, runOps_nil, wanted_none, ob_some, bc_true, x_move, x_assign, ev_int, ev_tmp, ret_v, after_val, putT_some, fput_fm, tget_hit, tget_miss, ne_eq, Nat.reduceEqDiff, not_false_eq_true, Nat.reduceLT, orE_some, x_binOp, bi_int, bi_lss, bi_eql, bi_add, x_indexAddr, x_load, asPtr_ptr, x_convert, hj1]
              exact rfl
            refine ⟨m2 - 1, _, _, by omega, ⟨j + 1, by omega, rfl, rfl⟩, FSub.fm rfl ?_, Sub.refl _⟩
            rw [hsucc]; simp [tget_cons]
        · apply AC.leave
          · simp only [ev_tmp, tget_hit]; rw [decide_eq_false (by omega)]
          have : j = 8 := by omega
          subst this
          refine ⟨rfl, FSub.fm rfl ?_⟩
          rw [hnext]; simp [tget_cons]
      · simp [tget_cons, show st8n 0 R0 = R0 from rfl]
      · rintro ρ' h2 ⟨rfl, u⟩
        refine AC.weak ?_ u (Sub.refl _)
        have hi1 : IntKind.i64.wrap ((i : Int) + 1) = ((i + 1 : Nat) : Int) := wrap_fit (n := i + 1) (show i + 1 < 9223372036854775808 by omega)
        apply AC.reg1 hP hX call0_ok
        · simp only [runOps_cons, runOps_nil, wanted_none, ob_some, bc_true, x_move, x_assign, ev_int, ev_tmp, ret_v, after_val, putT_some, fput_fm, tget_hit, tget_miss, ne_eq, Nat.reduceEqDiff, not_false_eq_true, Nat.reduceLT, orE_some, x_binOp, bi_int, bi_lss, bi_eql, bi_add, x_indexAddr, x_load, asPtr_ptr, x_convert, hi1]
          exact rfl
        exact ⟨m - 1, _, _, by omega, ⟨i + 1, by omega, rfl, rfl⟩, FSub.fm rfl (by simp [tget_cons]), Sub.refl _⟩
    · apply AC.leave
      · simp only [ev_tmp, tget_hit]; rw [decide_eq_false (by omega)]
      have : i = bs.length := by omega
      subst this
      show AC _ _ _ _ _
      apply AC.reg hP hX call0_ok
      · simp only [runOps_cons, runOps_nil, wanted_none, ob_some, bc_true, x_move, x_assign, ev_int, ev_tmp, ret_v, after_val, putT_some, fput_fm, tget_hit, tget_miss, ne_eq, Nat.reduceEqDiff, not_false_eq_true, Nat.reduceLT, orE_some, x_binOp, bi_int, bi_lss, bi_eql, bi_add, x_indexAddr, x_load, asPtr_ptr, x_convert]
        exact rfl
      refine AC.ret ⟨rfl, _, ?_, rfl, rfl⟩
      refine res1 (t := 4) rfl ?_
      simp [tget_cons]
  · simp [tget_cons, crcL]

noncomputable def sStep : Caller := fun _ args h => two args fun r s => ob (asK .u32 r) fun r => ob (bytesOf h s) fun bs => bc (Nat.blt r 4294967296) (bc (Nat.ble bs.length 4294967296) (some (.int .u32 (Int.ofNat (crcL bs r)), h)) none) none
theorem sStep_ok (hX : XOk Tryz.prog X) (args : List AV) (h : H) (v : AV) (h' : H) (hg : sStep 270 args h = some (v, h')) : ACall Tryz.prog 270 args h fun v' h2 => v' = v ∧ h2 = h' := by
  have hg' : two args (fun r s => ob (asK .u32 r) fun r => ob (bytesOf h s) fun bs => bc (Nat.blt r 4294967296) (bc (Nat.ble bs.length 4294967296) (some (AV.int .u32 (Int.ofNat (crcL bs r)), h)) none) none) = some (v, h') := hg
  unfold two at hg'
  split at hg'
  · rename_i a b
    simp only [ob_eq, bc_none, blt_t, ble_t, Option.some.injEq, Prod.mk.injEq] at hg'
    obtain ⟨r, hr, bs, hbs, hr32, hlen, rfl, rfl⟩ := hg'
    have := asK_eq hr
    subst this
    exact step_ok pok hX hbs (by omega) r hr32
  · cases hg'
end Go.Ab.T
