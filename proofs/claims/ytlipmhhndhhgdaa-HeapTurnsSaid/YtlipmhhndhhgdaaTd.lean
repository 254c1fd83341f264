/- rat, without its panics. -/
import Derived.Test.YtlipmhhndhhgdaaTc
set_option linter.unusedSimpArgs false
set_option linter.unusedVariables false
namespace Go.Ab
open Go.Proofs

theorem size_call (n : Int) (σ : St) (h0 : -9223372036854775808 ≤ n) (h1 : n < 9223372036854775808) : DCall Try.prog 78 [.int .i64 n] σ (.ret (.int .u64 n.natAbs)) σ [] := by
  refine calls Orc.none_ok Try.func78 rfl 20 nobt (by kernel_rfl) ?_
  by_cases h : n < 0
  · refine ⟨_, by simp [Try.f78, Try.underlying2, Try.underlying115, h]; rfl, ?_⟩
    simp [Try.f78, IntKind.wrap_i64, IntKind.wrap_u64]
    omega
  · refine ⟨_, by simp [Try.f78, Try.underlying2, Try.underlying115, h]; rfl, ?_⟩
    simp [Try.f78, IntKind.wrap_i64, IntKind.wrap_u64]
    omega

def bt77 : Nat → List Nat
  | 2 => [0, 0, 0, 6, 3, 31]
  | _ => []

theorem gcd_loop (σ : St) : ∀ (b a : Nat) (x : List Value), x.length = 10 → a < 18446744073709551616 → b < 18446744073709551616 →
    ∃ y, y.length = 10 ∧ DL Try.prog false (loopOf (Try.f77.body.getD .skip)) ⟨.int .u64 a :: .int .u64 b :: x, []⟩ σ ⟨.exit 0, ⟨.int .u64 (Nat.gcd a b) :: .int .u64 0 :: y, []⟩, σ, []⟩ := by
  intro b
  induction b using Nat.strongRecOn with
  | _ b ih =>
    intro a x hx ha hb
    obtain ⟨x2, x3, x4, x5, x6, x7, x8, x9, x10, x11, rfl⟩ : ∃ x2 x3 x4 x5 x6 x7 x8 x9 x10 x11, x = [x2, x3, x4, x5, x6, x7, x8, x9, x10, x11] := by
      match x, hx with
      | [x2, x3, x4, x5, x6, x7, x8, x9, x10, x11], _ => exact ⟨_, _, _, _, _, _, _, _, _, _, rfl⟩
    by_cases h : b = 0
    · subst h
      refine ⟨_, ?_, DL.out (runs Orc.none_ok 20 bt77 (by kernel_rfl) (r := ⟨.exit 0, ⟨_, []⟩, σ, []⟩) (by simp [loopOf, Try.f77, Try.underlying115] <;> rfl)) rfl⟩
      rfl
    · have hb0 : 0 < b := by omega
      have hne : (b : Int) ≠ 0 := by omega
      obtain ⟨y, hy, hl⟩ := ih (a % b) (Nat.mod_lt _ (by omega)) b [x2, x3, x4, .int .u64 b, .bool true, .int .u64 b, .int .u64 a, .int .u64 b, .int .u64 ((a % b : Nat) : Int), x11] rfl hb (Nat.lt_trans (Nat.mod_lt _ (by omega)) hb)
      refine ⟨y, hy, ?_⟩
      have e : Nat.gcd a b = Nat.gcd b (a % b) := by rw [Nat.gcd_comm b, ← Nat.gcd_rec, Nat.gcd_comm]
      rw [e]
      refine DL.next (r' := ⟨.exit 0, ⟨_, []⟩, σ, []⟩) (runs Orc.none_ok 20 bt77 (by kernel_rfl) (r := ⟨.norm, ⟨_, []⟩, σ, []⟩) (by simp [loopOf, Try.f77, Try.underlying115, hb0, h] <;> rfl)) rfl ?_
      have et : ((a : Int).tmod b) = ((a % b : Nat) : Int) := by
        rw [Int.tmod_eq_emod_of_nonneg (by omega)]; rfl
      rw [et]
      exact hl

theorem gcd_call (a b : Nat) (σ : St) (ha : a < 18446744073709551616) (hb : b < 18446744073709551616) : DCall Try.prog 77 [.int .u64 a, .int .u64 b] σ (.ret (.int .u64 (Nat.gcd a b))) σ [] := by
  obtain ⟨y, hy, hl⟩ := gcd_loop σ b a [undef, undef, .int .u64 0, undef, undef, undef, undef, undef, undef, undef] rfl ha hb
  obtain ⟨y2, y3, y4, y5, y6, y7, y8, y9, y10, y11, rfl⟩ : ∃ x2 x3 x4 x5 x6 x7 x8 x9 x10 x11, y = [x2, x3, x4, x5, x6, x7, x8, x9, x10, x11] := by
    match y, hy with
    | [x2, x3, x4, x5, x6, x7, x8, x9, x10, x11], _ => exact ⟨_, _, _, _, _, _, _, _, _, _, rfl⟩
  refine callsD Try.func77 rfl (DC.seq (runs Orc.none_ok 20 nobt (by kernel_rfl) (r := ⟨.norm, ⟨_, []⟩, σ, []⟩) (by simp [Try.f77] <;> rfl)) rfl
    (DC.seq (DC.block (DC.loop hl)) rfl (runs Orc.none_ok 20 nobt (by kernel_rfl) (r := ⟨.ret, ⟨_, []⟩, σ, []⟩) (by simp <;> rfl)))) ?_ rfl rfl
  simp [Try.f77]
end Go.Ab
