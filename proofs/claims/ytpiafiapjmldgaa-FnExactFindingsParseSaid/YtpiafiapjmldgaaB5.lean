/-
  The reader of codes, and texts.
-/
import Derived.Test.YtpiafiapjmldgaaB4
namespace Go.Proofs.Ytpiafiapjmldgaa
set_option linter.all false
set_option maxRecDepth 20000

theorem getD_bytes {l : List UInt8} {i : Nat} (h : i < l.length) : (l.map byteV).getD i .undef = byteV (l.getD i 0) := by
  simp [List.getD_eq_getElem?_getD, h]

theorem xor_nonneg {x y : Int} (hx : 0 ≤ x) (hx2 : x < 2 ^ 62) (hy : 0 ≤ y) (hy2 : y < 2 ^ 62) : 0 ≤ bitsV .xor .i64 x y := by
  obtain ⟨a, rfl⟩ := Int.eq_ofNat_of_zero_le hx
  obtain ⟨b, rfl⟩ := Int.eq_ofNat_of_zero_le hy
  have ha : a < 2 ^ 62 := by omega
  have hb : b < 2 ^ 62 := by omega
  have hab := Nat.xor_lt_two_pow ha hb
  have e1 : (BitVec.ofInt 64 (a : Int)).toNat = a := by
    simp [BitVec.toNat_ofInt]; omega
  have e2 : (BitVec.ofInt 64 (b : Int)).toNat = b := by
    simp [BitVec.toNat_ofInt]; omega
  have e : (BitVec.ofInt 64 (a : Int) ^^^ BitVec.ofInt 64 (b : Int)).toNat = a ^^^ b := by
    rw [BitVec.toNat_xor, e1, e2]
  show 0 ≤ IntKind.i64.wrap ((BitVec.ofInt 64 (a : Int) ^^^ BitVec.ofInt 64 (b : Int)).toNat : Int)
  rw [e]
  rw [wrap_i64 (by omega) (by omega)]
  omega

set_option maxRecDepth 20000 in
theorem pick_ok (src : List UInt8) (at_ : Nat) (n : Int) (h : at_ < 1000000000) (hn : n < 1000000) : ∃ r : Int, 0 ≤ r ∧ (r < n ∨ (n < 1 ∧ r = 0) ∨ r = 0) ∧
    Fn Try.prog fn_spec_l6Rd_pick [.ptr 1000 0, .int .i64 n] [[bsl src, .int .i64 at_]] (.int .i64 r) [[bsl src, .int .i64 (at_ + 1)]] := by
  by_cases h1 : n < 1
  · refine ⟨0, by omega, by omega, Fn.of_go ln_spec_l6Rd_pick rfl ?_⟩
    simp [ac_spec_l6Rd_pick, bsl, h1]
    exact ⟨by omega, .mk [] [(1000, 1000)] (by simp)⟩
  by_cases h2 : src.length = 0
  · refine ⟨0, by omega, by omega, Fn.of_go ln_spec_l6Rd_pick rfl ?_⟩
    simp [ac_spec_l6Rd_pick, bsl, h1, h2]
    exact ⟨by omega, .mk [] [(1000, 1000)] (by simp)⟩
  have h2' : ¬ (src.length : Int) = 0 := by omega
  by_cases h3 : at_ < src.length
  · refine ⟨((src.getD at_ 0).toNat : Int).tmod n, ?_, ?_, Fn.of_go ln_spec_l6Rd_pick rfl ?_⟩
    · exact Int.tmod_nonneg _ (Int.natCast_nonneg _)
    · exact .inl (Int.tmod_lt_of_pos _ (by omega))
    · have e : (at_ : Int) + 1 - 1 = at_ := by omega
      have h3' : (at_ : Int) < src.length := by omega
      simp [ac_spec_l6Rd_pick, bsl, h1, h2, h2', e, h3, h3', wrap_u8]
      exact ⟨by omega, by omega, by omega, .mk [] [(1000, 1000)] (by simp)⟩
  have h3' : ¬ (at_ : Int) < src.length := by omega
  have e : (at_ : Int) + 1 - 1 = at_ := by omega
  have hpos : 0 < src.length := by omega
  have q1 : (at_ : Int).tmod src.length = ((at_ % src.length : Nat) : Int) := rfl
  have q2 : ((at_ : Int) * 7 + 3).tmod src.length = (((at_ * 7 + 3) % src.length : Nat) : Int) := rfl
  have q3 : (at_ : Int).tdiv src.length = ((at_ / src.length : Nat) : Int) := rfl
  have m1 : at_ % src.length < src.length := Nat.mod_lt _ hpos
  have m2 : (at_ * 7 + 3) % src.length < src.length := Nat.mod_lt _ hpos
  have m3 : at_ / src.length ≤ at_ := Nat.div_le_self _ _
  have g0 : (0 : Int) ≤ (at_ : Int) / src.length := Int.ediv_nonneg (by omega) (by omega)
  have u1 := (src[at_ % src.length]).toNat_lt
  have u2 := (src[(at_ * 7 + 3) % src.length]).toNat_lt
  refine ⟨(bitsV .xor .i64 ((src[at_ % src.length].toNat : Int) * 131 + (src[(at_ * 7 + 3) % src.length].toNat : Int) * 1117 + at_ * 29 + ((at_ / src.length : Nat) : Int) * 53)
    (((src[at_ % src.length].toNat : Int) * 131 + (src[(at_ * 7 + 3) % src.length].toNat : Int) * 1117 + at_ * 29 + ((at_ / src.length : Nat) : Int) * 53).tdiv 64)).tmod n, ?_, ?_, Fn.of_go ln_spec_l6Rd_pick rfl ?_⟩
  · refine Int.tmod_nonneg _ (xor_nonneg (by omega) (by omega) (Int.tdiv_nonneg (by omega) (by omega)) ?_)
    rw [Int.tdiv_eq_ediv_of_nonneg (by omega)]
    omega
  · exact .inl (Int.tmod_lt_of_pos _ (by omega))
  · have m1' : ((at_ % src.length : Nat) : Int) < src.length := by omega
    have m2' : (((at_ * 7 + 3) % src.length : Nat) : Int) < src.length := by omega
    simp [ac_spec_l6Rd_pick, bsl, h1, h2, h2', e, h3, h3', wrap_u8, q1, q2, q3, m1, m2, m1', m2', -Int.natCast_emod, -Int.natCast_ediv]
    rw [Int.tdiv_eq_ediv_of_nonneg (by omega)]
    refine ⟨by omega, by omega, by omega, by omega, by omega, by omega, by omega, by omega, by omega, by omega, by omega, by omega, by omega, by omega, .mk [] [(1000, 1000)] (by simp)⟩

theorem open_ok (l : List UInt8) : Fn Try.prog fn_spec_l6Open [bsl l] [] (.ptr 1000 0) [[bsl (l.take 2000), .int .i64 0]] := by
  refine Fn.of_go ln_spec_l6Open rfl ?_
  by_cases h : 2000 < l.length
  · have h' : (2000 : Int) < l.length := by omega
    simp [ac_spec_l6Open, bsl, h, h', fillV, partsOk]
    exact ⟨by omega, .mk [] [(1000, 10)] (by simp)⟩
  · have h' : ¬ (2000 : Int) < l.length := by omega
    simp [ac_spec_l6Open, bsl, h, h', fillV, partsOk]
    exact .mk [] [(1000, 10)] (by simp; rw [List.take_of_length_le]; simp; omega)
end Go.Proofs.Ytpiafiapjmldgaa
