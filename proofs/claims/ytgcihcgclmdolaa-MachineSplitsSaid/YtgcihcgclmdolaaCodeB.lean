/- Bits of words and of numbers, as sums. No condition. -/
import Derived.RowKit
import Derived.Laws.BitsLemmas
import Derived.Test.YtgcihcgclmdolaaPlainCode
namespace Go.Proofs.Ytgcihcgclmdolaa.PC
open Go.RowKit
theorem wraps_u32 (n : Int) (h₀ : 0 ≤ n) (h₁ : n < 2 ^ 32) : IntKind.u32.wrap n = n := by rw [IntKind.wrap_u32]; omega
theorem and_u32 (i : Nat) (hi : i ≤ 32) {x : Int} (h0 : 0 ≤ x) (h1 : x < 4294967296) : bits .and .u32 x (2 ^ i - 1) = x % 2 ^ i := bits_mask .u32 32 (by decide) wraps_u32 i hi x h0 (by simpa using h1)
theorem u32_and1 {x : Int} (h0 : 0 ≤ x) (h1 : x < 4294967296) : bits .and .u32 x 1 = x % 2 := and_u32 1 (by decide) h0 h1
theorem u32_and15 {x : Int} (h0 : 0 ≤ x) (h1 : x < 4294967296) : bits .and .u32 x 15 = x % 16 := and_u32 4 (by decide) h0 h1
theorem u32_and31 {x : Int} (h0 : 0 ≤ x) (h1 : x < 4294967296) : bits .and .u32 x 31 = x % 32 := and_u32 5 (by decide) h0 h1
theorem u32_and63 {x : Int} (h0 : 0 ≤ x) (h1 : x < 4294967296) : bits .and .u32 x 63 = x % 64 := and_u32 6 (by decide) h0 h1
theorem u32_and127 {x : Int} (h0 : 0 ≤ x) (h1 : x < 4294967296) : bits .and .u32 x 127 = x % 128 := and_u32 7 (by decide) h0 h1
theorem u32_and255 {x : Int} (h0 : 0 ≤ x) (h1 : x < 4294967296) : bits .and .u32 x 255 = x % 256 := and_u32 8 (by decide) h0 h1
theorem u32_and1023 {x : Int} (h0 : 0 ≤ x) (h1 : x < 4294967296) : bits .and .u32 x 1023 = x % 1024 := and_u32 10 (by decide) h0 h1
/-- 'or' of words: the upper one has nothing where the lower one stands. -/
theorem or_u32 (i : Nat) {x y : Int} (hx : 0 ≤ x) (hm : x % 2 ^ i = 0) (hx1 : x < 4294967296) (hy : 0 ≤ y) (hy1 : y < 2 ^ i) (hy2 : y < 4294967296) : bits .or .u32 x y = x + y :=
  bits_join .u32 32 (by decide) wraps_u32 i x y hx hm (by simpa using hx1) hy hy1 (by simpa using hy2)
theorem or_comm_u32 (x y : Int) : bits .or .u32 x y = bits .or .u32 y x := by
  unfold bits
  simp only [BitVec.or_comm]
/-- .. the lower one first. -/
theorem lo_or (i : Nat) {x y : Int} (hx : 0 ≤ x) (hm : x % 2 ^ i = 0) (hx1 : x < 4294967296) (hy : 0 ≤ y) (hy1 : y < 2 ^ i) (hy2 : y < 4294967296) : bits .or .u32 y x = y + x := by
  rw [or_comm_u32, or_u32 i hx hm hx1 hy hy1 hy2, Int.add_comm]
theorem or_assoc_u32 {x y z : Int} (hx : 0 ≤ x ∧ x < 4294967296) (hy : 0 ≤ y ∧ y < 4294967296) (hz : 0 ≤ z ∧ z < 4294967296) : bits .or .u32 (bits .or .u32 x y) z = bits .or .u32 x (bits .or .u32 y z) := by
  obtain ⟨a, rfl⟩ := Int.eq_ofNat_of_zero_le hx.1
  obtain ⟨b, rfl⟩ := Int.eq_ofNat_of_zero_le hy.1
  obtain ⟨c, rfl⟩ := Int.eq_ofNat_of_zero_le hz.1
  have ha : a < 2 ^ 32 := by omega
  have hb : b < 2 ^ 32 := by omega
  have hc : c < 2 ^ 32 := by omega
  have e := fun a b ha hb => (bits_nat .u32 32 (by decide) wraps_u32 a b ha hb).2
  rw [e a b ha hb, e b c hb hc, e _ c (Nat.or_lt_two_pow ha hb) hc, e a _ ha (Nat.or_lt_two_pow hb hc), Nat.or_assoc]
theorem or_zero_u32 {x : Int} (hx : 0 ≤ x) (hx1 : x < 4294967296) : bits .or .u32 x 0 = x := by
  have := or_u32 0 (y := 0) hx (by omega) hx1 (by decide) (by decide) (by decide)
  simpa using this
theorem toNat_ofInt64 (x : Int) : (BitVec.ofInt 64 x).toNat = (x % 18446744073709551616).toNat := by simp [BitVec.toNat_ofInt]
theorem i64_and1 (n : Int) : bits .and .i64 n 1 = n % 2 := by
  unfold bits
  have h1 : (BitVec.ofInt 64 n &&& BitVec.ofInt 64 1).toNat = (n % 2).toNat := by
    rw [BitVec.toNat_and, toNat_ofInt64, toNat_ofInt64]
    have e : ((1 : Int) % 18446744073709551616).toNat = 1 := by decide
    rw [e, Nat.and_one_is_mod]
    omega
  show IntKind.i64.wrap ((BitVec.ofInt 64 n &&& BitVec.ofInt 64 1).toNat : Int) = n % 2
  rw [h1, IntKind.wrap_i64]
  omega
/-- 'or' of numbers: the upper one, which may be below 0, has nothing where the lower one stands. -/
theorem or_i64 (i : Nat) {x y : Int} (hi : i ≤ 40) (hx : -1099511627776 ≤ x ∧ x ≤ 1099511627776) (hm : x % 2 ^ i = 0) (hy : 0 ≤ y) (hy1 : y < 2 ^ i) : bits .or .i64 x y = x + y := by
  have hp : (2 : Int) ^ i ≤ 2 ^ 40 := by
    have : 2 ^ i ≤ 2 ^ 40 := Nat.pow_le_pow_right (by decide) hi
    exact_mod_cast this
  have h40 : (2 : Int) ^ 40 = 1099511627776 := by decide
  rw [h40] at hp
  obtain ⟨b, rfl⟩ := Int.eq_ofNat_of_zero_le hy
  obtain ⟨a, ha⟩ : ∃ a : Nat, (a : Int) = x % 18446744073709551616 := ⟨(x % 18446744073709551616).toNat, by omega⟩
  have hb : b < 2 ^ i := by exact_mod_cast hy1
  have hd : (2 : Int) ^ i ∣ 18446744073709551616 := by
    have : 2 ^ i ∣ 2 ^ 64 := Nat.pow_dvd_pow 2 (by omega)
    have h64 : (18446744073709551616 : Int) = ((2 ^ 64 : Nat) : Int) := by decide
    rw [h64]
    have h2 : ((2 : Int) ^ i) = ((2 ^ i : Nat) : Int) := by simp
    rw [h2]
    exact Int.natCast_dvd_natCast.2 this
  have ham : a % 2 ^ i = 0 := by
    have h1 : (a : Int) % 2 ^ i = 0 := by rw [ha, Int.emod_emod_of_dvd _ hd, hm]
    have h2 : ((a % 2 ^ i : Nat) : Int) = (a : Int) % 2 ^ i := by simp
    have h3 : ((a % 2 ^ i : Nat) : Int) = 0 := h2.trans h1
    exact_mod_cast h3
  have hq : a = 2 ^ i * (a / 2 ^ i) := by
    have := Nat.div_add_mod a (2 ^ i)
    omega
  have hor : (BitVec.ofInt 64 x ||| BitVec.ofInt 64 (b : Int)).toNat = a + b := by
    rw [BitVec.toNat_or, toNat_ofInt64, toNat_ofInt64, ← ha]
    have e : (((b : Nat) : Int) % 18446744073709551616).toNat = b := by omega
    rw [e, Int.toNat_natCast, hq, ← Nat.two_pow_add_eq_or_of_lt hb (a / 2 ^ i)]
  unfold bits
  show IntKind.i64.wrap ((BitVec.ofInt 64 x ||| BitVec.ofInt 64 (b : Int)).toNat : Int) = x + b
  rw [hor, IntKind.wrap_i64]
  omega
/-- What 'put' comes to. -/
def putV (x f n t : Int) : Int := x / 2 ^ f.toNat % 2 ^ n.toNat * 2 ^ t.toNat % 4294967296
theorem put_val {x f n t : Int} (hx : 0 ≤ x ∧ x ≤ 4294967295) (hn : 0 ≤ n ∧ n ≤ 31) : bits .and .u32 (x / 2 ^ f.toNat) ((2 ^ n.toNat - 1) % 4294967296) * 2 ^ t.toNat % 4294967296 = putV x f n t := by
  have hf : (0 : Int) < 2 ^ f.toNat := Int.pow_pos (by decide)
  have hn2 : (2 : Int) ^ n.toNat ≤ 2 ^ 31 := by
    have : 2 ^ n.toNat ≤ 2 ^ 31 := Nat.pow_le_pow_right (by decide) (by omega)
    exact_mod_cast this
  have hn3 : (0 : Int) < 2 ^ n.toNat := Int.pow_pos (by decide)
  have h31 : (2 : Int) ^ 31 = 2147483648 := by decide
  have h1 : 0 ≤ x / 2 ^ f.toNat := Int.ediv_nonneg hx.1 (by omega)
  have h2 : x / 2 ^ f.toNat ≤ x := Int.ediv_le_self _ hx.1
  have e : ((2 : Int) ^ n.toNat - 1) % 4294967296 = 2 ^ n.toNat - 1 := by omega
  rw [e, and_u32 n.toNat (by omega) h1 (by omega), putV]
/-- An Imm's bits. -/
theorem imm_I (n : Int) : putV (n % 4294967296) 0 12 20 = immB 73 n := by
  simp only [putV, immB]
  simp
  omega
theorem imm_H (n : Int) : putV (n % 4294967296) 0 5 20 = immB 72 n := by
  simp only [putV, immB]
  simp
  omega
theorem imm_U (n : Int) : putV (n % 4294967296) 0 20 12 = immB 85 n := by
  simp only [putV, immB]
  simp
  omega
theorem imm_S (n : Int) : bits .or .u32 (putV (n % 4294967296) 0 5 7) (putV (n % 4294967296) 5 7 25) = immB 83 n := by
  have e1 : putV (n % 4294967296) 0 5 7 = n % 32 * 128 := by simp [putV]; omega
  have e2 : putV (n % 4294967296) 5 7 25 = n / 32 % 128 * 33554432 := by simp [putV]; omega
  rw [e1, e2, or_comm_u32, or_u32 25 (by omega) (by omega) (by omega) (by omega) (by omega) (by omega)]
  simp [immB]
  omega
theorem imm_B (n : Int) : bits .or .u32 (bits .or .u32 (bits .or .u32 (putV (n % 4294967296) 11 1 7) (putV (n % 4294967296) 1 4 8)) (putV (n % 4294967296) 5 6 25)) (putV (n % 4294967296) 12 1 31) = immB 66 n := by
  have e1 : putV (n % 4294967296) 11 1 7 = n / 2048 % 2 * 128 := by simp [putV]; omega
  have e2 : putV (n % 4294967296) 1 4 8 = n / 2 % 16 * 256 := by simp [putV]; omega
  have e3 : putV (n % 4294967296) 5 6 25 = n / 32 % 64 * 33554432 := by simp [putV]; omega
  have e4 : putV (n % 4294967296) 12 1 31 = n / 4096 % 2 * 2147483648 := by simp [putV]; omega
  rw [e1, e2, e3, e4]
  have b1 : 0 ≤ n / 2048 % 2 ∧ n / 2048 % 2 ≤ 1 := by omega
  have b2 : 0 ≤ n / 2 % 16 ∧ n / 2 % 16 ≤ 15 := by omega
  have b3 : 0 ≤ n / 32 % 64 ∧ n / 32 % 64 ≤ 63 := by omega
  have b4 : 0 ≤ n / 4096 % 2 ∧ n / 4096 % 2 ≤ 1 := by omega
  simp only [immB]
  simp
  generalize n / 2048 % 2 = a at *
  generalize n / 2 % 16 = b at *
  generalize n / 32 % 64 = c at *
  generalize n / 4096 % 2 = d at *
  rw [lo_or 8 (y := a * 128) (x := b * 256) (by omega) (by omega) (by omega) (by omega) (by omega) (by omega), lo_or 25 (y := a * 128 + b * 256) (x := c * 33554432) (by omega) (by omega) (by omega) (by omega) (by omega) (by omega), lo_or 31 (y := a * 128 + b * 256 + c * 33554432) (x := d * 2147483648) (by omega) (by omega) (by omega) (by omega) (by omega) (by omega)]
theorem imm_J (n : Int) : bits .or .u32 (bits .or .u32 (bits .or .u32 (putV (n % 4294967296) 12 8 12) (putV (n % 4294967296) 11 1 20)) (putV (n % 4294967296) 1 10 21)) (putV (n % 4294967296) 20 1 31) = immB 74 n := by
  have e1 : putV (n % 4294967296) 12 8 12 = n / 4096 % 256 * 4096 := by simp [putV]; omega
  have e2 : putV (n % 4294967296) 11 1 20 = n / 2048 % 2 * 1048576 := by simp [putV]; omega
  have e3 : putV (n % 4294967296) 1 10 21 = n / 2 % 1024 * 2097152 := by simp [putV]; omega
  have e4 : putV (n % 4294967296) 20 1 31 = n / 1048576 % 2 * 2147483648 := by simp [putV]; omega
  rw [e1, e2, e3, e4]
  have b1 : 0 ≤ n / 4096 % 256 ∧ n / 4096 % 256 ≤ 255 := by omega
  have b2 : 0 ≤ n / 2048 % 2 ∧ n / 2048 % 2 ≤ 1 := by omega
  have b3 : 0 ≤ n / 2 % 1024 ∧ n / 2 % 1024 ≤ 1023 := by omega
  have b4 : 0 ≤ n / 1048576 % 2 ∧ n / 1048576 % 2 ≤ 1 := by omega
  simp only [immB]
  simp
  generalize n / 4096 % 256 = a at *
  generalize n / 2048 % 2 = b at *
  generalize n / 2 % 1024 = c at *
  generalize n / 1048576 % 2 = d at *
  rw [lo_or 20 (y := a * 4096) (x := b * 1048576) (by omega) (by omega) (by omega) (by omega) (by omega) (by omega), lo_or 21 (y := a * 4096 + b * 1048576) (x := c * 2097152) (by omega) (by omega) (by omega) (by omega) (by omega) (by omega), lo_or 31 (y := a * 4096 + b * 1048576 + c * 2097152) (x := d * 2147483648) (by omega) (by omega) (by omega) (by omega) (by omega) (by omega)]
/-- The signed Imm that a word holds. -/
theorem sg_I {n : Int} (hn : 0 ≤ n ∧ n ≤ 4294967295) : wrap64 (wrap32 n / 1048576) = immOf 73 n := by
  have e : immOf 73 n = if n / 1048576 ≥ 2048 then n / 1048576 - 4096 else n / 1048576 := rfl
  rw [e]
  unfold wrap64 wrap32
  split <;> omega
theorem sg_H {n : Int} (hn : 0 ≤ n ∧ n ≤ 4294967295) : wrap64 (bits .and .u32 (n / 1048576) 31) = immOf 72 n := by
  have e : immOf 72 n = n / 1048576 % 32 := rfl
  rw [e, u32_and31 (by omega) (by omega)]
  unfold wrap64
  omega
theorem sg_S {n : Int} (hn : 0 ≤ n ∧ n ≤ 4294967295) : bits .or .i64 (wrap64 (wrap32 (wrap32 n / 33554432 * 32))) (wrap64 (bits .and .u32 (n / 128) 31)) = immOf 83 n := by
  have e : immOf 83 n = (if n / 33554432 ≥ 64 then n / 33554432 - 128 else n / 33554432) * 32 + n / 128 % 32 := rfl
  have e1 : wrap64 (wrap32 (wrap32 n / 33554432 * 32)) = (if n / 33554432 ≥ 64 then n / 33554432 - 128 else n / 33554432) * 32 := by
    unfold wrap64 wrap32
    split <;> omega
  have e2 : wrap64 (bits .and .u32 (n / 128) 31) = n / 128 % 32 := by
    rw [u32_and31 (by omega) (by omega)]
    unfold wrap64
    omega
  rw [e, e1, e2]
  have b : -128 ≤ (if n / 33554432 ≥ 64 then n / 33554432 - 128 else n / 33554432) ∧ (if n / 33554432 ≥ 64 then n / 33554432 - 128 else n / 33554432) ≤ 128 := by split <;> omega
  generalize (if n / 33554432 ≥ 64 then n / 33554432 - 128 else n / 33554432) = a at *
  exact or_i64 5 (by decide) (by omega) (by omega) (by omega) (by omega)
theorem sg_B {n : Int} (hn : 0 ≤ n ∧ n ≤ 4294967295) : bits .or .i64 (bits .or .i64 (bits .or .i64 (wrap64 (wrap32 (wrap32 n / 2147483648 * 4096))) (bits .and .u32 (n / 128) 1 * 2048 % 4294967296)) (bits .and .u32 (n / 33554432) 63 * 32 % 4294967296)) (bits .and .u32 (n / 256) 15 * 2 % 4294967296) = immOf 66 n := by
  have e : immOf 66 n = 2 * (n / 256 % 16) + 32 * (n / 33554432 % 64) + 2048 * (n / 128 % 2) - 4096 * (n / 2147483648 % 2) := rfl
  have e1 : wrap64 (wrap32 (wrap32 n / 2147483648 * 4096)) = -4096 * (n / 2147483648 % 2) := by
    unfold wrap64 wrap32
    omega
  rw [e, e1, u32_and1 (by omega) (by omega), u32_and63 (by omega) (by omega), u32_and15 (by omega) (by omega)]
  have b1 : 0 ≤ n / 2147483648 % 2 ∧ n / 2147483648 % 2 ≤ 1 := by omega
  have b2 : 0 ≤ n / 128 % 2 ∧ n / 128 % 2 ≤ 1 := by omega
  have b3 : 0 ≤ n / 33554432 % 64 ∧ n / 33554432 % 64 ≤ 63 := by omega
  have b4 : 0 ≤ n / 256 % 16 ∧ n / 256 % 16 ≤ 15 := by omega
  clear e e1 hn
  generalize n / 2147483648 % 2 = a at *
  generalize n / 128 % 2 = b at *
  generalize n / 33554432 % 64 = c at *
  generalize n / 256 % 16 = d at *
  have m1 : b * 2048 % 4294967296 = b * 2048 := by omega
  have m2 : c * 32 % 4294967296 = c * 32 := by omega
  have m3 : d * 2 % 4294967296 = d * 2 := by omega
  rw [m1, m2, m3, or_i64 12 (x := -4096 * a) (y := b * 2048) (by decide) (by omega) (by omega) (by omega) (by omega), or_i64 11 (x := -4096 * a + b * 2048) (y := c * 32) (by decide) (by omega) (by omega) (by omega) (by omega), or_i64 5 (x := -4096 * a + b * 2048 + c * 32) (y := d * 2) (by decide) (by omega) (by omega) (by omega) (by omega)]
  omega
theorem sg_U (n : Int) : n / 4096 = immOf 85 n := rfl
theorem sg_J {n : Int} (hn : 0 ≤ n ∧ n ≤ 4294967295) : bits .or .i64 (bits .or .i64 (bits .or .i64 (wrap64 (wrap32 (wrap32 n / 2147483648 * 1048576))) (bits .and .u32 (n / 4096) 255 * 4096 % 4294967296)) (bits .and .u32 (n / 1048576) 1 * 2048 % 4294967296)) (bits .and .u32 (n / 2097152) 1023 * 2 % 4294967296) = immOf 74 n := by
  have e : immOf 74 n = 2 * (n / 2097152 % 1024) + 2048 * (n / 1048576 % 2) + 4096 * (n / 4096 % 256) - 1048576 * (n / 2147483648 % 2) := rfl
  have e1 : wrap64 (wrap32 (wrap32 n / 2147483648 * 1048576)) = -1048576 * (n / 2147483648 % 2) := by
    unfold wrap64 wrap32
    omega
  rw [e, e1, u32_and1 (by omega) (by omega), u32_and255 (by omega) (by omega), u32_and1023 (by omega) (by omega)]
  have b1 : 0 ≤ n / 2147483648 % 2 ∧ n / 2147483648 % 2 ≤ 1 := by omega
  have b2 : 0 ≤ n / 4096 % 256 ∧ n / 4096 % 256 ≤ 255 := by omega
  have b3 : 0 ≤ n / 1048576 % 2 ∧ n / 1048576 % 2 ≤ 1 := by omega
  have b4 : 0 ≤ n / 2097152 % 1024 ∧ n / 2097152 % 1024 ≤ 1023 := by omega
  clear e e1 hn
  generalize n / 2147483648 % 2 = a at *
  generalize n / 4096 % 256 = b at *
  generalize n / 1048576 % 2 = c at *
  generalize n / 2097152 % 1024 = d at *
  have m1 : b * 4096 % 4294967296 = b * 4096 := by omega
  have m2 : c * 2048 % 4294967296 = c * 2048 := by omega
  have m3 : d * 2 % 4294967296 = d * 2 := by omega
  rw [m1, m2, m3, or_i64 20 (x := -1048576 * a) (y := b * 4096) (by decide) (by omega) (by omega) (by omega) (by omega), or_i64 12 (x := -1048576 * a + b * 4096) (y := c * 2048) (by decide) (by omega) (by omega) (by omega) (by omega), or_i64 11 (x := -1048576 * a + b * 4096 + c * 2048) (y := d * 2) (by decide) (by omega) (by omega) (by omega) (by omega)]
  omega
theorem immB_range (k n : Int) : 0 ≤ immB k n ∧ immB k n < 4294967296 := by
  unfold immB
  split
  · omega
  split
  · omega
  split
  · omega
  split
  · omega
  split
  · omega
  split
  · omega
  · omega
/-- Two numbers, the one's parts between the other's. -/
theorem join4 {op f3 rs1 x lo hi : Int} (ho : 0 ≤ op ∧ op < 128) (h : 0 ≤ f3 ∧ f3 ≤ 7 ∧ 0 ≤ rs1 ∧ rs1 ≤ 31 ∧ 0 ≤ x ∧ x ≤ 31) (hl : 0 ≤ lo ∧ lo ≤ 31) (hh : 0 ≤ hi ∧ hi ≤ 127) :
    bits .or .u32 (op + 0 * 128 + f3 * 4096 + rs1 * 32768 + x * 1048576 + 0 * 33554432) (lo * 128 + hi * 33554432) = op + 0 * 128 + f3 * 4096 + rs1 * 32768 + x * 1048576 + 0 * 33554432 + (lo * 128 + hi * 33554432) := by
  have hr : 0 ≤ f3 + 8 * rs1 + 256 * x ∧ f3 + 8 * rs1 + 256 * x ≤ 8191 := by omega
  have e1 : op + 0 * 128 + f3 * 4096 + rs1 * 32768 + x * 1048576 + 0 * 33554432 = op + (f3 + 8 * rs1 + 256 * x) * 4096 := by omega
  rw [e1]
  clear e1
  generalize f3 + 8 * rs1 + 256 * x = r at *
  have j1 : op + r * 4096 = bits .or .u32 op (r * 4096) := (lo_or 12 (by omega) (by omega) (by omega) (by omega) (by omega) (by omega)).symm
  have j2 : lo * 128 + hi * 33554432 = bits .or .u32 (lo * 128) (hi * 33554432) := (lo_or 25 (by omega) (by omega) (by omega) (by omega) (by omega) (by omega)).symm
  have k1 : bits .or .u32 op (lo * 128) = op + lo * 128 := lo_or 7 (by omega) (by omega) (by omega) (by omega) (by omega) (by omega)
  have k2 : bits .or .u32 (op + lo * 128) (r * 4096) = op + lo * 128 + r * 4096 := lo_or 12 (by omega) (by omega) (by omega) (by omega) (by omega) (by omega)
  have k3 : bits .or .u32 (op + lo * 128 + r * 4096) (hi * 33554432) = op + lo * 128 + r * 4096 + hi * 33554432 := lo_or 25 (by omega) (by omega) (by omega) (by omega) (by omega) (by omega)
  have fin : bits .or .u32 (op + r * 4096) (lo * 128 + hi * 33554432) = op + lo * 128 + r * 4096 + hi * 33554432 := by
    rw [j1, j2, or_assoc_u32 (by omega) (by omega) (by omega), ← or_assoc_u32 (x := r * 4096) (by omega) (by omega) (by omega), or_comm_u32 (r * 4096) (lo * 128), or_assoc_u32 (x := lo * 128) (by omega) (by omega) (by omega)]
    have j3 : bits .or .u32 (r * 4096) (hi * 33554432) = r * 4096 + hi * 33554432 := lo_or 25 (by omega) (by omega) (by omega) (by omega) (by omega) (by omega)
    rw [← or_assoc_u32 (x := op) (by omega) (by omega) (by rw [j3]; omega), k1, ← or_assoc_u32 (by omega) (by omega) (by omega), k2, k3]
  rw [fin]
  omega
/-- The word of an instruction, as the program joins it. -/
theorem word_or {f : Fm} (hf : f.good) {rd rs1 rs2 n : Int} (h : encE f rd rs1 rs2 n = 0) :
    bits .or .u32 (bits .or .u32 (bits .or .u32 (bits .or .u32 (bits .or .u32 (bits .or .u32 f.op (rd * 128)) (f.f3 * 4096)) (rs1 * 32768)) ((if f.rs2 = 32 then rs1 else rs2) * 1048576)) (f.f7 * 33554432)) (immB f.kind n) = encW f rd rs1 rs2 n := by
  obtain ⟨u1, u2, u3, u4, r1, r2, r3, r4, r5, r6, hfit⟩ := encE_zero h
  clear h
  obtain ⟨kind, op, f3, f7, r⟩ := f
  obtain ⟨g1, g2, g3, g4, g5, g6, hk⟩ := hf
  simp only [Fm.uRd, Fm.uRs1, Fm.uRs2, Fm.uImm, fitsK, encW] at *
  have hx : 0 ≤ (if r = 32 then rs1 else rs2) ∧ (if r = 32 then rs1 else rs2) ≤ 31 := by split <;> omega
  generalize hxe : (if r = 32 then rs1 else rs2) = x at *
  have W : bits .or .u32 (bits .or .u32 (bits .or .u32 (bits .or .u32 (bits .or .u32 op (rd * 128)) (f3 * 4096)) (rs1 * 32768)) (x * 1048576)) (f7 * 33554432) = op + rd * 128 + f3 * 4096 + rs1 * 32768 + x * 1048576 + f7 * 33554432 := by
    rw [lo_or 7 (y := op) (x := rd * 128) (by omega) (by omega) (by omega) (by omega) (by omega) (by omega), lo_or 12 (y := op + rd * 128) (x := f3 * 4096) (by omega) (by omega) (by omega) (by omega) (by omega) (by omega), lo_or 15 (y := op + rd * 128 + f3 * 4096) (x := rs1 * 32768) (by omega) (by omega) (by omega) (by omega) (by omega) (by omega),
      lo_or 20 (y := op + rd * 128 + f3 * 4096 + rs1 * 32768) (x := x * 1048576) (by omega) (by omega) (by omega) (by omega) (by omega) (by omega), lo_or 25 (y := op + rd * 128 + f3 * 4096 + rs1 * 32768 + x * 1048576) (x := f7 * 33554432) (by omega) (by omega) (by omega) (by omega) (by omega) (by omega)]
  rw [W]
  clear W
  have hi := immB_range kind n
  rcases hk with ⟨rfl, hr⟩ | ⟨rfl, rfl, rfl⟩ | ⟨rfl, rfl⟩ | ⟨rfl, rfl, rfl⟩ | ⟨rfl, rfl, rfl⟩ | ⟨rfl, rfl, rfl, rfl⟩ | ⟨rfl, rfl, rfl, rfl⟩ | ⟨rfl, rfl, rfl, rfl⟩
  · simp at u1 u2 u3 u4 hfit
    have e : immB 82 n = 0 := rfl
    rw [e, or_zero_u32 (by omega) (by omega)]; omega
  · simp at u1 u2 u3 u4 hfit hxe
    subst u3 hxe
    have e : immB 73 n = n % 4096 * 1048576 := rfl
    rw [e, lo_or 20 (by omega) (by omega) (by omega) (by omega) (by omega) (by omega)]
  · simp at u1 u2 u3 u4 hfit hxe
    subst u3 hxe
    have e : immB 72 n = n % 32 * 1048576 := rfl
    rw [e]
    have j1 : op + rd * 128 + f3 * 4096 + rs1 * 32768 + 0 * 1048576 + f7 * 33554432 = bits .or .u32 (op + rd * 128 + f3 * 4096 + rs1 * 32768) (f7 * 33554432) := by
      rw [lo_or 25 (by omega) (by omega) (by omega) (by omega) (by omega) (by omega)]; omega
    rw [j1, or_assoc_u32 (by omega) (by omega) (by omega), or_comm_u32 (f7 * 33554432), ← or_assoc_u32 (by omega) (by omega) (by omega), lo_or 20 (y := op + rd * 128 + f3 * 4096 + rs1 * 32768) (x := n % 32 * 1048576) (by omega) (by omega) (by omega) (by omega) (by omega) (by omega), lo_or 25 (y := op + rd * 128 + f3 * 4096 + rs1 * 32768 + n % 32 * 1048576) (x := f7 * 33554432) (by omega) (by omega) (by omega) (by omega) (by omega) (by omega)]
    omega
  · simp at u1 u2 u3 u4 hfit hxe
    subst u1 hxe
    have e : immB 83 n = n % 32 * 128 + n / 32 % 128 * 33554432 := rfl
    rw [e]
    have b1 : 0 ≤ n % 32 ∧ n % 32 ≤ 31 := by omega
    have b2 : 0 ≤ n / 32 % 128 ∧ n / 32 % 128 ≤ 127 := by omega
    clear e hfit hi
    generalize n % 32 = a at *
    generalize n / 32 % 128 = b at *
    exact join4 ⟨g1, g2⟩ (by omega) (by omega) (by omega)
  · simp at u1 u2 u3 u4 hfit hxe
    subst u1 hxe
    have e : immB 66 n = (n / 2048 % 2 + 2 * (n / 2 % 16)) * 128 + (n / 32 % 64 + 64 * (n / 4096 % 2)) * 33554432 := by
      have : immB 66 n = n / 2048 % 2 * 128 + n / 2 % 16 * 256 + n / 32 % 64 * 33554432 + n / 4096 % 2 * 2147483648 := rfl
      rw [this]; omega
    have e' : immB 66 n = n / 2048 % 2 * 128 + n / 2 % 16 * 256 + n / 32 % 64 * 33554432 + n / 4096 % 2 * 2147483648 := rfl
    rw [e]
    have b1 : 0 ≤ n / 2048 % 2 + 2 * (n / 2 % 16) ∧ n / 2048 % 2 + 2 * (n / 2 % 16) ≤ 31 := by omega
    have b2 : 0 ≤ n / 32 % 64 + 64 * (n / 4096 % 2) ∧ n / 32 % 64 + 64 * (n / 4096 % 2) ≤ 127 := by omega
    clear e e' hfit hi
    generalize n / 2048 % 2 + 2 * (n / 2 % 16) = a at *
    generalize n / 32 % 64 + 64 * (n / 4096 % 2) = b at *
    exact join4 ⟨g1, g2⟩ (by omega) (by omega) (by omega)
  · simp at u1 u2 u3 u4 hfit hxe
    subst u2 u3 hxe
    have e : immB 85 n = n % 1048576 * 4096 := rfl
    rw [e, lo_or 12 (by omega) (by omega) (by omega) (by omega) (by omega) (by omega)]
  · simp at u1 u2 u3 u4 hfit hxe
    subst u2 u3 hxe
    have e : immB 74 n = n / 4096 % 256 * 4096 + n / 2048 % 2 * 1048576 + n / 2 % 1024 * 2097152 + n / 1048576 % 2 * 2147483648 := rfl
    have e2 : immB 74 n % 4096 = 0 := by rw [e]; omega
    clear e hfit
    generalize immB 74 n = I at *
    rw [lo_or 12 (by omega) e2 (by omega) (by omega) (by omega) (by omega)]
  · simp at u1 u2 u3 u4 hfit hxe
    have e : immB 69 n = 0 := rfl
    rw [e, or_zero_u32 (by omega) (by omega)]; omega
end Go.Proofs.Ytgcihcgclmdolaa.PC
