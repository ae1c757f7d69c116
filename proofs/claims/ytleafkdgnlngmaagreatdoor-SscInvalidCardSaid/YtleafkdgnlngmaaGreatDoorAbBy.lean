/- Small things on numbers, bytes and unknown values, of no program. -/
import Derived.Test.YtleafkdgnlngmaaGreatDoorAbGc
namespace Go.Ab
open Go

theorem wrap_u8 (n : Nat) : IntKind.u8.wrap (n : Int) = ((n % 256 : Nat) : Int) := by
  rw [← wrapK_eq]
  by_cases h : n < 256
  · rw [Nat.mod_eq_of_lt h, wrapK_eq]; exact wrap_fit h
  · show bc (Nat.ble 256 n) (backK .u8 (Nat.mod n 256)) _ = _
    rw [ble_t.2 (by omega), bc_true]
    exact backK_fit (show n % 256 < 256 by omega)

/-- a number as one byte -/
theorem wrap_u8_int (z : Int) : IntKind.u8.wrap z = z % 256 := by
  rw [wrap_eq, if_neg (by simp [sgnK])]; rfl

theorem wrap_u64_nat (n : Int) : ∃ N : Nat, N < 18446744073709551616 ∧ IntKind.u64.wrap n = (N : Int) := by
  refine ⟨(n % 18446744073709551616).toNat, by omega, ?_⟩
  rw [wrap_eq, if_neg (by simp [sgnK])]
  show n % ((18446744073709551616 : Nat) : Int) = _
  omega

/-- numbers as bytes of a slice -/
def u8s (l : List Nat) : List AV := l.map fun (x : Nat) => AV.int .u8 (x : Int)
theorem u8s_get (l : List Nat) (i : Nat) (hi : i < l.length) : (u8s l)[i]? = some (.int .u8 ((l[i] : Nat) : Int)) := by simp [u8s, hi]
theorem u8s_len (l : List Nat) : (u8s l).length = l.length := by simp [u8s]
theorem SlAt.u8s {h : H} {s : AV} {bs : List UInt8} (e : bytesOf h s = some bs) : SlAt h s 1 (u8s (bs.map UInt8.toNat)) := by
  have := SlAt.of_bytes e
  unfold Go.Ab.u8s
  rw [List.map_map]
  exact this

theorem bytesEq_nat : ∀ (x y : List UInt8), bytesEq x y = decide (x.map UInt8.toNat = y.map UInt8.toNat)
  | [], [] => rfl
  | [], _ :: _ => by simp [bytesEq]
  | _ :: _, [] => by simp [bytesEq]
  | a :: x, b :: y => by
    show (bif Nat.beq a.toNat b.toNat then bytesEq x y else false) = _
    rw [bytesEq_nat x y]
    by_cases h : a.toNat = b.toNat
    · rw [beq_t.2 h]; simp [h]
    · rw [beq_f.2 h]; simp [h]

theorem kEq_eq {k k' : IntKind} (h : kEq k k' = true) : k = k' := by cases k <;> cases k' <;> first | rfl | (cases h)

noncomputable def two (l : List AV) (k : AV → AV → Option (AV × H)) : Option (AV × H) := match l with | [a, b] => k a b | _ => none
noncomputable def asK (k : IntKind) (v : AV) : Option Nat := match v with | .int k' (.ofNat n) => bc (kEq k k') (some n) none | _ => none
theorem asK_eq {k : IntKind} {v : AV} {n : Nat} (h : asK k v = some n) : v = .int k (n : Int) := by
  cases v <;> simp only [asK, reduceCtorEq] at h
  rename_i k' z
  cases z with
  | negSucc m => cases h
  | ofNat m =>
    have h' : bc (kEq k k') (some m) none = some n := h
    rw [bc_none, Option.some.injEq] at h'
    obtain ⟨h1, rfl⟩ := h'
    rw [kEq_eq h1]; rfl

noncomputable def okR (x : Option (AV × H)) : Bool := match x with | some (.bool b, _) => b | _ => false
theorem okR_eq {x : Option (AV × H)} (h : okR x = true) : ∃ h', x = some (.bool true, h') := by
  unfold okR at h
  split at h
  · subst h; exact ⟨_, rfl⟩
  · cases h

/-- specifications, one by one -/
theorem SOk.cons [Th] {P : Program} {S : Specs} {f : FuncId} {g : Caller} (hS : SOk P S) (hg : ∀ args h v h', g f args h = some (v, h') → ACall P f args h fun v' h2 => v' = v ∧ h2 = h') :
    SOk P (fun k => bc (Nat.beq k f) (some g) (S k)) := by
  intro k q hk args h v h' hq β w cargs gk s hv
  by_cases hkf : k = f
  · subst hkf
    have hk' : bc (Nat.beq k k) (some g) (S k) = some q := hk
    rw [beq_t.2 rfl, bc_true] at hk'
    cases hk'
    refine (hg args h v h' hq β w cargs gk s hv).mono ?_
    rintro e w' ⟨v1, h1, β', cv, ⟨rfl, rfl⟩, r⟩
    exact ⟨β', cv, r⟩
  · have hk' : bc (Nat.beq k f) (some g) (S k) = some q := hk
    rw [beq_f.2 hkf, bc_false] at hk'
    exact hS k q hk' args h v h' hq β w cargs gk s hv
theorem SOk.nil [Th] {P : Program} : SOk P (fun _ => none) := fun _ _ e => by cases e

end Go.Ab
