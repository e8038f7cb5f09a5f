/-
  Messages: bytes in two digits each, numbers of a serial kind, and the texts of messages by the program and by the reference.
-/
import Derived.Test.YtpiafiapjmldgaaDoorB8
namespace Go.Proofs.YtpiafiapjmldgaaDoor
set_option linter.all false
set_option maxRecDepth 20000
attribute [-simp] List.getD_eq_getElem?_getD getD_cons'

theorem bytesOf_map : ∀ l : List UInt8, bytesOf (l.map byteV) = some l
  | [] => rfl
  | c :: r => by
    have ih := bytesOf_map r
    have h := c.toNat_lt
    simp [bytesOf, byteOf, byteV, ih]

def hexD (n : Nat) : UInt8 := ([48, 49, 50, 51, 52, 53, 54, 55, 56, 57, 97, 98, 99, 100, 101, 102] : List UInt8).getD n 0
/-- Bytes, two digits each. -/
def hexS (l : List UInt8) : List UInt8 := l.flatMap fun c => [hexD (c.toNat / 16), hexD (c.toNat % 16)]

theorem hexS_len : ∀ l : List UInt8, (hexS l).length = 2 * l.length
  | [] => rfl
  | c :: r => by
    have := hexS_len r
    simp only [hexS, List.flatMap_cons, List.length_append, List.length_cons, List.length_nil] at this ⊢
    omega

theorem hexS_snoc {l : List UInt8} {i : Nat} (h : i < l.length) : hexS (l.take (i + 1)) = hexS (l.take i) ++ [hexD ((nth l i).toNat / 16), hexD ((nth l i).toNat % 16)] := by
  rw [take_nth h]; simp [hexS]

theorem l1Hex_ok (s : List UInt8) (hs : s.length ≤ 100000000000) : Fn Tryd.prog fn_spec_l1Hex [.str s] [] (.str (hexS s)) [] := by
  refine Fn.of_go ln_spec_l1Hex rfl ?_
  simp [ac_spec_l1Hex]
  refine go_loop (fun i => { env := [(0, .str s), (3, .sl (some 0) 1 ((hexS (s.take i)).map byteV)), (4, .int .i64 (i : Nat))], loc := [], box := [], stat := [(0, some (.own (hexS (s.take i)).length 1))] }) (fun i => i ≤ s.length) (fun i => s.length - i) 0 (by omega) (Weak.of [(0, some 80, 0, 1)] [] (by simp [hexS])) ?_
  intro i hi
  simp
  refine goTest_dec (fun hlt => ?_) (fun hge => ?_)
  · have hn := idx_nth hlt
    have hsn := hexS_snoc hlt
    have hlen := hexS_len (s.take i)
    have hu := (nth s i).toNat_lt
    have e0 : (((nth s i).toNat : Int)).tmod 16 = ((nth s i).toNat : Int) % 16 := Int.tmod_eq_emod_of_nonneg (by omega)
    have e1 : (((nth s i).toNat : Int) / 16).toNat = (nth s i).toNat / 16 := by omega
    have e2 : (((nth s i).toNat : Int) % 16).toNat = (nth s i).toNat % 16 := by omega
    simp [hlt, hn, e0, e1, e2]
    refine ⟨by omega, by omega, by omega, by simp [roomOk]; simp at hlen; omega, by omega, .mk (i + 1) hlt (by omega) (Weak.of [(0, some 0, (hexS (s.take i)).length + 2, 1)] [] (by simp [hsn, hexD]))⟩
  · obtain rfl : i = s.length := by omega
    simp [bytesOf_map]
    exact Ends.mk [] [] (by simp)

theorem and15 : ∀ c : Fin (2 ^ 8), bitsV .and .u8 (c.val : Int) 15 = ((c.val % 16 : Nat) : Int) := by decide +kernel

theorem hexOf_ok (s : List UInt8) (hs : s.length ≤ 100000000000) : Fn Tryd.prog fn_impl_hexOf [.str s] [] (.str (hexS s)) [] := by
  refine Fn.of_go ln_impl_hexOf rfl ?_
  simp [ac_impl_hexOf]
  refine ⟨by omega, ⟨by omega, by unfold roomOk; omega⟩, ?_⟩
  refine go_loop (fun i => { env := [(0, .str s), (3, .sl (some 0) 1 ((hexS (s.take i)).map byteV)), (4, .int .i64 (i : Nat))], loc := [], box := [], stat := [(0, some (.own (hexS (s.take i)).length 1))] }) (fun i => i ≤ s.length) (fun i => s.length - i) 0 (by omega) (Weak.of [(0, some 128, 0, 1)] [] (by simp [hexS])) ?_
  intro i hi
  simp
  refine goTest_dec (fun hlt => ?_) (fun hge => ?_)
  · have hn := idx_nth hlt
    have hsn := hexS_snoc hlt
    have hlen := hexS_len (s.take i)
    have hu := (nth s i).toNat_lt
    have e0 : (((nth s i).toNat : Int)).fdiv 16 = (((nth s i).toNat / 16 : Nat) : Int) := Int.fdiv_eq_ediv_of_nonneg _ (by omega)
    have e1 : bitsV .and .u8 ((nth s i).toNat : Int) 15 = (((nth s i).toNat % 16 : Nat) : Int) := and15 ⟨_, hu⟩
    simp [hlt, hn, e0, e1, -Int.natCast_ediv, -Int.natCast_emod]
    refine ⟨by decide, by omega, by omega, by simp [roomOk]; simp at hlen; omega, by omega, .mk (i + 1) hlt (by omega) (Weak.of [(0, some 0, (hexS (s.take i)).length + 2, 1)] [] (by simp [hsn, hexD]))⟩
  · obtain rfl : i = s.length := by omega
    simp [bytesOf_map]
    exact Ends.mk [] [] (by simp)

end Go.Proofs.YtpiafiapjmldgaaDoor
