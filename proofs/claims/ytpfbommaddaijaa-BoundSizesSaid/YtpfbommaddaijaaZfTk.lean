/- The number of ones of a small number. -/
import Derived.Test.YtpfbommaddaijaaZfKb
namespace Go.Proofs.Ytpfbommaddaijaa
open Go.RowKit
set_option linter.unusedVariables false
set_option linter.unusedSimpArgs false


abbrev W64 (x : Int) : Int := IntKind.u64.wrap x
abbrev A64 (x y : Int) : Int := bits BinOp.and IntKind.u64 x y
def o1 (x : Int) : Int := W64 (A64 (x / 2) 6148914691236517205 + A64 x 6148914691236517205)
def o2 (x : Int) : Int := W64 (A64 (x / 4) 3689348814741910323 + A64 x 3689348814741910323)
def o3 (x : Int) : Int := A64 (W64 (x / 16 + x)) 1085102592571150095
def o4 (x : Int) : Int := W64 (x + x / 256)
def o5 (x : Int) : Int := W64 (x + x / 65536)
def o6 (x : Int) : Int := W64 (x + x / 4294967296)
def oc (x : Int) : Int := bits BinOp.and IntKind.i64 (wrap64 (o6 (o5 (o4 (o3 (o2 (o1 x))))))) 127
def pcF : Nat → Nat → Nat
  | 0, _ => 0
  | n + 1, s => s % 2 + pcF n (s / 2)
def pc (s : Nat) : Nat := pcF 14 s
theorem oc_all : (List.range 128).all (fun a => (List.range 128).all fun b => oc ((a * 128 + b : Nat) : Int) == (pc (a * 128 + b) : Int)) = true := by kernel_rfl
theorem oc_pc {s : Nat} (hs : s < 16384) : oc s = pc s := by
  have h1 := List.all_eq_true.1 oc_all (s / 128) (List.mem_range.2 (by omega))
  have h2 := List.all_eq_true.1 h1 (s % 128) (List.mem_range.2 (by omega))
  have e : s / 128 * 128 + s % 128 = s := by omega
  rw [e] at h2
  simpa using h2

set_option maxHeartbeats 2000000 in
theorem ones64 {s : Nat} (hs : s < 16384) (w : World) : Calls Try.prog 126 #[U s] w fun e w' => e = .returned (I (pc s)) ∧ w' = w := by
  have he := Lib.hid (oc_pc hs)
  go_enter Try.func126, Try.ntmps126
  go_wp2
  go_ret
  exact ⟨ri (by rw [← he.out]; simp only [oc, o1, o2, o3, o4, o5, o6]), rfl⟩
theorem ones_any {s : Nat} (hs : s < 16384) (w : World) : Calls Try.prog 89 #[U s] w fun e w' => e = .returned (I (pc s)) ∧ w' = w := by
  have H := Lib.hid (fun w => ones64 hs w)
  go_enter Try.func89, Try.ntmps89
  go_wp2_with (first | (go_at_call 126; (with_reducible refine (H.out _).mono ?_); rintro e w' ⟨rfl, rfl⟩))
  go_ret
  exact ⟨rfl, rfl⟩
end Go.Proofs.Ytpfbommaddaijaa

