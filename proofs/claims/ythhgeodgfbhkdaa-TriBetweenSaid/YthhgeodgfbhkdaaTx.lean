/- The functions without a body that the Tri laws reach: bits.Add64, bits.Sub64, as the executor answers them. -/
import Derived.Test.YthhgeodgfbhkdaaAxZA
import Derived.Test.YthhgeodgfbhkdaaProg
set_option linter.unusedVariables false
set_option linter.unusedSimpArgs false
set_option linter.unusedSectionVars false
namespace Go.AX.Tri
open Go.Proofs

def m64 : Nat := 18446744073709551616
def tx : XT := fun f args =>
  match f, args with
  | 67, [.int .u64 (.ofNat x), .int .u64 (.ofNat y), .int .u64 (.ofNat c)] => bif Nat.ble c 1 then some (.tuple #[.int .u64 (Int.ofNat ((x + y + c) % m64)), .int .u64 (Int.ofNat ((x + y + c) / m64))]) else none
  | 68, [.int .u64 (.ofNat x), .int .u64 (.ofNat y), .int .u64 (.ofNat c)] => bif Nat.ble c 1 then some (.tuple #[.int .u64 (Int.ofNat ((x + m64 - y - c) % m64)), .int .u64 (Int.ofNat (bif Nat.blt x (y + c) then 1 else 0))]) else none
  | _, _ => none

noncomputable def f67 : Func := match Try.prog.funcs[67]? with | some fn => fn | none => default
noncomputable def f68 : Func := match Try.prog.funcs[68]? with | some fn => fn | none => default
theorem get67 : Try.prog.funcs[67]? = some f67 := by kernel_rfl
theorem get68 : Try.prog.funcs[68]? = some f68 := by kernel_rfl
def sub64Entry : Array Value → Sem Value := fun args => do
  let (x, y, b) ← Extern.MathBitsCarry.three "Sub64" args
  pure (Extern.MathBitsCarry.pair ((x + Extern.MathBitsCarry.m64 - y - b) % Extern.MathBitsCarry.m64) (if x < y + b then 1 else 0))
theorem ext67 : Extern.find f67 = some add64Entry := by kernel_rfl
theorem ext68 : Extern.find f68 = some sub64Entry := by kernel_rfl

theorem run_sub64 (x y c : Nat) (hc : c ≤ 1) (w : World) : (sub64Entry #[.int .u64 (Int.ofNat x), .int .u64 (Int.ofNat y), .int .u64 (Int.ofNat c)]).run Try.prog w =
    .ok (.tuple #[.int .u64 (Int.ofNat ((x + m64 - y - c) % m64)), .int .u64 (Int.ofNat (bif Nat.blt x (y + c) then 1 else 0))]) w := by
  have : c = 0 ∨ c = 1 := by omega
  have E : ∀ k, (if x < y + k then (1 : Nat) else 0) = (bif Nat.blt x (y + k) then 1 else 0) := by
    intro k
    cases hb : Nat.blt x (y + k)
    · have : ¬ x < y + k := fun h => by rw [← Nat.blt_eq, hb] at h; cases h
      rw [if_neg this]; rfl
    · rw [Nat.blt_eq] at hb; rw [if_pos hb]; rfl
  rw [← E]
  rcases this with rfl | rfl <;> rfl

theorem xok : XOk Try.prog tx := by
  intro f args v h w
  unfold tx at h
  split at h
  · rename_i x y c
    cases hb : Nat.ble c 1 <;> rw [hb] at h
    · cases h
    · cases h
      have hc := Nat.le_of_ble_eq_true hb
      rw [run_callFunc_extern get67 (by kernel_rfl) (by kernel_rfl) (by kernel_rfl) ext67]
      have := run_add64 (P := Try.prog) (Int.ofNat x) (Int.ofNat y) (Int.ofNat c) (Int.natCast_nonneg _) (Int.natCast_nonneg _) (Int.natCast_nonneg _) (by simp; omega) w
      rw [this]
      rfl
  · rename_i x y c
    cases hb : Nat.ble c 1 <;> rw [hb] at h
    · cases h
    · cases h
      have hc := Nat.le_of_ble_eq_true hb
      rw [run_callFunc_extern get68 (by kernel_rfl) (by kernel_rfl) (by kernel_rfl) ext68]
      rw [run_sub64 x y c hc w]
      rfl
  · cases h

theorem mixed : Try.prog.follows .mixedOrders = true := by kernel_rfl

end Go.AX.Tri
