/- SscInvalid's walk, in the model's own words. -/
import Derived.Below
import Derived.Test.YtleafkdgnlngmaaGreatDoorSiRun
set_option linter.unusedVariables false
set_option linter.unusedSimpArgs false
namespace Go.Proofs.YtleafkdgnlngmaaGreatDoor
open Go.RowKit

theorem walk (I : Ab.T.Inp) (W : World) : Calls Tryz.prog 4 #[.agg #[.int .i64 I.kind, .int .u64 I.addr, .slice I.p I.n I.c, .int .i64 I.many], .int .i64 I.size, .string ⟨⟨I.name⟩⟩] W fun e W' =>
    e = .returned (.bool true) ∧ Below W.heap.size W W' := by
  letI : Ab.Th := Ab.T.th I
  have hL := Ab.T.law I
  have g0 : Ab.GOk Tryz.prog (fun b => if b < 3 then some (b, 0, 0) else none) := fun i hi => ⟨0, by
    rw [Ab.T.globals3] at hi
    simp only [hi, if_true]⟩
  have he : ∀ b o, (⟨3, .e⟩ : Ab.H).get b = some o → False := fun b o hb => by
    have : (Ab.Tr.e : Ab.Tr Ab.AObj).get b = some o := hb
    rw [Ab.Tr.get_e] at this; cases this
  have s0 : Ab.Sim (fun b => if b < 3 then some (b, 0, 0) else none) ⟨3, .e⟩ W :=
    ⟨fun b o hb => (he b o hb).elim, fun b b' o o' r r' hb => (he b o hb).elim, fun b hb => by
      have : ¬ b < 3 := Nat.not_lt.2 hb
      simp only [this, if_false]⟩
  have j (i : Nat) (v : Value) (h : Ab.T.val I i = some v) : Ab.VR (fun b => if b < 3 then some (b, 0, 0) else none) (.junk i) v := Ab.T.val_J h
  refine (hL _ W #[.agg #[.int .i64 I.kind, .int .u64 I.addr, .slice I.p I.n I.c, .int .i64 I.many], .int .i64 I.size, .string ⟨⟨I.name⟩⟩] g0 s0
    ⟨_, _, rfl, ⟨_, rfl, _, _, rfl, j 6 _ rfl, _, _, rfl, j 1 _ rfl, _, _, rfl, j 2 _ rfl, _, _, rfl, j 7 _ rfl, rfl⟩, _, _, rfl, j 3 _ rfl, _, _, rfl, j 4 _ rfl, rfl⟩).mono ?_
  rintro e W' ⟨v, h', β', cv, rfl, rfl, hv, s', k⟩
  refine ⟨?_, k.os, k.tape, k.output, k.size, fun i hi => k.old i hi fun b o r hb => (he b o hb).elim⟩
  have : cv = .bool true := hv
  rw [this]
end Go.Proofs.YtleafkdgnlngmaaGreatDoor
