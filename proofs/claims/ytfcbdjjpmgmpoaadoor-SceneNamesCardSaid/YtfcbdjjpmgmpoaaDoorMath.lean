import GoSem.Claim
namespace Go.Mat
/-- The high word of a wide number. -/
def hiW (n : Int) : Int := n / 18446744073709551616
def loW (n : Int) : Nat := (n % 18446744073709551616).toNat
theorem hiW_eq (n h : Int) (l : Nat) (hl : l < 18446744073709551616) (e : n = h * 18446744073709551616 + l) : hiW n = h := by unfold hiW; omega
theorem loW_eq (n h : Int) (l : Nat) (hl : l < 18446744073709551616) (e : n = h * 18446744073709551616 + l) : loW n = l := by unfold loW; omega
theorem wide_parts (n : Int) : n = hiW n * 18446744073709551616 + loW n ∧ loW n < 18446744073709551616 := by unfold hiW loW; omega
/-- A number of 128 bits, signed. -/
def is128 (n : Int) : Prop := -170141183460469231731687303715884105728 ≤ n ∧ n < 170141183460469231731687303715884105728
theorem hiW_bounds (n : Int) (h : is128 n) : -9223372036854775808 ≤ hiW n ∧ hiW n ≤ 9223372036854775807 := by unfold is128 at h; unfold hiW; omega

/-- bits.Div64 by 65536, its steps. -/
theorem div64_one (hi lo : Nat) (hh : hi < 65536) (hl : lo < 18446744073709551616) :
    ∃ q, q = (hi * 18446744073709551616 + lo) / 65536 ∧ q < 18446744073709551616 := ⟨_, rfl, by omega⟩
end Go.Mat
