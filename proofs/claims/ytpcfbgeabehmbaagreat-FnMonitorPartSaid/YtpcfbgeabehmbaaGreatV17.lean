/-
  The library's functions, by the contracts of the kit's shelf.
  Texts: cutting and numbers.
  Reading findings: the program's function and the reference's do the same.
  The program's FindingsParse.
  The reader of codes, and texts.
  Numbers and findings as texts, by the reference.
  Draws: what is drawn returns, and what it returns is not long.
  Comparing findings, counting lines, and the draw of a text of findings.
  Messages: bytes in two digits each, numbers of a serial kind, and the texts of messages by the program and by the reference.
  Messages: numbers of a serial kind, and the texts of messages by the program and by the reference.
  Chunks, parts, packets and associations, as plain data and as values.
-/
import Derived.Test.YtpcfbgeabehmbaaGreatV16
import Derived.Test.YtpcfbgeabehmbaaGreatShelf
import Derived.Below
namespace Go.Proofs.YtpcfbgeabehmbaaGreat
set_option linter.all false

section
open Go.RowKit

end

section
set_option maxRecDepth 20000
attribute [-simp] List.getD_eq_getElem?_getD

theorem drop_nth {α : Type} [Inhabited α] {l : List α} {i : Nat} (h : i < l.length) : l.drop i = nth l i :: l.drop (i + 1) := by
  rw [nth_eq h]; exact List.drop_eq_getElem_cons h

theorem idx_nth {l : List UInt8} {i : Nat} (h : i < l.length) : l.getD i 0 = nth l i := getD_nth h

end

section
set_option maxRecDepth 20000
attribute [-simp] List.getD_eq_getElem?_getD

end

section
set_option maxRecDepth 20000
attribute [-simp] List.getD_eq_getElem?_getD

end

section
set_option maxRecDepth 20000

theorem xor_nonneg {x y : Int} (hx : 0 ≤ x) (hx2 : x < 2 ^ 62) (hy : 0 ≤ y) (hy2 : y < 2 ^ 62) : 0 ≤ bitsV .xor .i64 x y := by
  obtain ⟨a, rfl⟩ := Int.eq_ofNat_of_zero_le hx
  obtain ⟨b, rfl⟩ := Int.eq_ofNat_of_zero_le hy
  have ha : a < 2 ^ 62 := by omega
  have hb : b < 2 ^ 62 := by omega
  have hab := Nat.xor_lt_two_pow ha hb
  have e1 : (BitVec.ofInt 64 (a : Int)).toNat = a := by
    simp [BitVec.toNat_ofInt]; omega
  have e2 : (BitVec.ofInt 64 (b : Int)).toNat = b := by
    simp [BitVec.toNat_ofInt]; omega
  have e : (BitVec.ofInt 64 (a : Int) ^^^ BitVec.ofInt 64 (b : Int)).toNat = a ^^^ b := by
    rw [BitVec.toNat_xor, e1, e2]
  show 0 ≤ IntKind.i64.wrap ((BitVec.ofInt 64 (a : Int) ^^^ BitVec.ofInt 64 (b : Int)).toNat : Int)
  rw [e]
  rw [wrap_i64 (by omega) (by omega)]
  omega

set_option maxRecDepth 20000 in
theorem pick_ok (src : List UInt8) (at_ : Nat) (n : Int) (h : at_ < 1000000000) (hn : n < 1000000) : ∃ r : Int, 0 ≤ r ∧ (r < n ∨ (n < 1 ∧ r = 0) ∨ r = 0) ∧
    Fn Tryz.prog fn_spec_l6Rd_pick [.ptr 1000 0, .int .i64 n] [[bsl src, .int .i64 at_]] (.int .i64 r) [[bsl src, .int .i64 (at_ + 1)]] := by
  by_cases h1 : n < 1
  · refine ⟨0, by omega, by omega, Fn.of_go ln_spec_l6Rd_pick rfl ?_⟩
    simp [ac_spec_l6Rd_pick, bsl, h1]
    exact ⟨by omega, .mk [] [(1000, 1000)] (by simp)⟩
  by_cases h2 : src.length = 0
  · refine ⟨0, by omega, by omega, Fn.of_go ln_spec_l6Rd_pick rfl ?_⟩
    simp [ac_spec_l6Rd_pick, bsl, h1, h2]
    exact ⟨by omega, .mk [] [(1000, 1000)] (by simp)⟩
  have h2' : ¬ (src.length : Int) = 0 := by omega
  by_cases h3 : at_ < src.length
  · refine ⟨((src.getD at_ 0).toNat : Int).tmod n, ?_, ?_, Fn.of_go ln_spec_l6Rd_pick rfl ?_⟩
    · exact Int.tmod_nonneg _ (Int.natCast_nonneg _)
    · exact .inl (Int.tmod_lt_of_pos _ (by omega))
    · have e : (at_ : Int) + 1 - 1 = at_ := by omega
      have h3' : (at_ : Int) < src.length := by omega
      simp [ac_spec_l6Rd_pick, bsl, h1, h2, h2', e, h3, h3', wrap_u8]
      exact ⟨by omega, by omega, by omega, .mk [] [(1000, 1000)] (by simp)⟩
  have h3' : ¬ (at_ : Int) < src.length := by omega
  have e : (at_ : Int) + 1 - 1 = at_ := by omega
  have hpos : 0 < src.length := by omega
  have q1 : (at_ : Int).tmod src.length = ((at_ % src.length : Nat) : Int) := rfl
  have q2 : ((at_ : Int) * 7 + 3).tmod src.length = (((at_ * 7 + 3) % src.length : Nat) : Int) := rfl
  have q3 : (at_ : Int).tdiv src.length = ((at_ / src.length : Nat) : Int) := rfl
  have m1 : at_ % src.length < src.length := Nat.mod_lt _ hpos
  have m2 : (at_ * 7 + 3) % src.length < src.length := Nat.mod_lt _ hpos
  have m3 : at_ / src.length ≤ at_ := Nat.div_le_self _ _
  have g0 : (0 : Int) ≤ (at_ : Int) / src.length := Int.ediv_nonneg (by omega) (by omega)
  have u1 := (src[at_ % src.length]).toNat_lt
  have u2 := (src[(at_ * 7 + 3) % src.length]).toNat_lt
  refine ⟨(bitsV .xor .i64 ((src[at_ % src.length].toNat : Int) * 131 + (src[(at_ * 7 + 3) % src.length].toNat : Int) * 1117 + at_ * 29 + ((at_ / src.length : Nat) : Int) * 53)
    (((src[at_ % src.length].toNat : Int) * 131 + (src[(at_ * 7 + 3) % src.length].toNat : Int) * 1117 + at_ * 29 + ((at_ / src.length : Nat) : Int) * 53).tdiv 64)).tmod n, ?_, ?_, Fn.of_go ln_spec_l6Rd_pick rfl ?_⟩
  · refine Int.tmod_nonneg _ (xor_nonneg (by omega) (by omega) (Int.tdiv_nonneg (by omega) (by omega)) ?_)
    rw [Int.tdiv_eq_ediv_of_nonneg (by omega)]
    omega
  · exact .inl (Int.tmod_lt_of_pos _ (by omega))
  · have m1' : ((at_ % src.length : Nat) : Int) < src.length := by omega
    have m2' : (((at_ * 7 + 3) % src.length : Nat) : Int) < src.length := by omega
    simp [ac_spec_l6Rd_pick, bsl, h1, h2, h2', e, h3, h3', wrap_u8, q1, q2, q3, m1, m2, m1', m2', -Int.natCast_emod, -Int.natCast_ediv]
    rw [Int.tdiv_eq_ediv_of_nonneg (by omega)]
    refine ⟨by omega, by omega, by omega, by omega, by omega, by omega, by omega, by omega, by omega, by omega, by omega, by omega, by omega, by omega, .mk [] [(1000, 1000)] (by simp)⟩

theorem open_ok (l : List UInt8) : Fn Tryz.prog fn_spec_l6Open [bsl l] [] (.ptr 1000 0) [[bsl (l.take 2000), .int .i64 0]] := by
  refine Fn.of_go ln_spec_l6Open rfl ?_
  by_cases h : 2000 < l.length
  · have h' : (2000 : Int) < l.length := by omega
    simp [ac_spec_l6Open, bsl, h, h', fillV, partsOk]
    exact ⟨by omega, .mk [] [(1000, 10)] (by simp)⟩
  · have h' : ¬ (2000 : Int) < l.length := by omega
    simp [ac_spec_l6Open, bsl, h, h', fillV, partsOk]
    exact .mk [] [(1000, 10)] (by simp; rw [List.take_of_length_le]; simp; omega)
end

section
set_option maxRecDepth 20000
attribute [-simp] List.getD_eq_getElem?_getD

end

section
set_option maxRecDepth 20000
attribute [-simp] List.getD_eq_getElem?_getD

theorem pickI (src : List UInt8) (a n : Int) (h : 0 ≤ a ∧ a < 1000000000) (hn : 0 < n ∧ n < 1000000) : ∃ r : Nat, (r : Int) < n ∧
    Fn Tryz.prog fn_spec_l6Rd_pick [.ptr 1000 0, .int .i64 n] [[bsl src, .int .i64 a]] (.int .i64 r) [[bsl src, .int .i64 (a + 1)]] := by
  obtain ⟨k, rfl⟩ := Int.eq_ofNat_of_zero_le h.1
  obtain ⟨r, h1, h2, h3⟩ := pick_ok src k n (by omega) (by omega)
  obtain ⟨i, rfl⟩ := Int.eq_ofNat_of_zero_le h1
  exact ⟨i, by omega, h3⟩

/-- A number is drawn. -/
theorem goPick {st : St} {p : Nat} {src : List UInt8} {a n : Int} {d : AD} {rs : List AOp} {k : List It} {Q : AE → St → Prop} (hb : lookB st.box p = some [bsl src, .int .i64 a]) (ha : 0 ≤ a ∧ a < 1000000000) (hn : 0 < n ∧ n < 1000000)
    (h : ∀ r : Nat, (r : Int) < n → go Tryz.prog (.ops rs :: k) Q .normal (Delta.apply { val := .int .i64 r, nb := [(p, [.sl none 1 (src.map byteV), .int .i64 (a + 1)])] } st d)) : goCall Tryz.prog fn_spec_l6Rd_pick [.ptr p 0, .int .i64 n] d rs k Q st := by
  obtain ⟨r, hr, f⟩ := pickI src a n ha hn
  refine goCall_gen [] [(1000, p)] [] [] none f (by simp [bsl, hb]) ?_
  have := h r hr
  simpa [bsl] using this

def ssl (l : List (List UInt8)) : V := .sl none 1 (l.map V.str)

theorem of_ok (src : List UInt8) (a : Int) (xs : List (List UInt8)) (h : 0 ≤ a ∧ a < 1000000000) (hx : 0 < xs.length) (hx2 : xs.length < 1000000) : ∃ s ∈ xs,
    Fn Tryz.prog fn_spec_l6Rd_of [.ptr 1000 0, ssl xs] [[bsl src, .int .i64 a]] (.str s) [[bsl src, .int .i64 (a + 1)]] := by
  obtain ⟨r, hr, hf⟩ := pickI src a xs.length h (by omega)
  have hr2 : r < xs.length := by omega
  refine ⟨nth xs r, nth_mem hr2, Fn.of_go ln_spec_l6Rd_of rfl ?_⟩
  simp [ac_spec_l6Rd_of, ssl, bsl]
  refine goCall_gen [] [(1000, 1000)] [] [] none hf (by simp [bsl]) ?_
  simp [bsl, hr2]
  exact Ends.mk [] [(1000, 1000)] (by simp)

/-- A text that was drawn. -/
inductive StrR (src : List UInt8) (a k : Int) (n : Nat) : V → List (List V) → Prop
  | mk (t : List UInt8) (b : Int) (h : t.length ≤ n) (hb : a ≤ b ∧ b ≤ a + k) : StrR src a k n (.str t) [[bsl src, .int .i64 b]]

theorem spoil_ok (src : List UInt8) (a : Int) (s : List UInt8) (h : 0 ≤ a ∧ a < 100000000) (hs : s.length < 100000) : ∃ R bo, StrR src a 4 (s.length + 1) R bo ∧
    Fn Tryz.prog fn_spec_l91Spoil [.ptr 1000 0, .str s] [[bsl src, .int .i64 a]] R bo := by
  refine Fx.of_go ln_spec_l91Spoil rfl ?_
  by_cases h1 : s = []
  · simp [ac_spec_l91Spoil, h1, bsl]
    exact ⟨_, _, .mk ([]) (a) (by simp) (by omega), Ends.mk [] [(1000, 1000)] (by simp [bsl])⟩
  have h2 : 0 < s.length := List.length_pos_iff.2 h1
  obtain ⟨r1, hr1, f1⟩ := pickI src a 3 (by omega) (by omega)
  simp [ac_spec_l91Spoil, h1, bsl]
  refine goCall_gen [] [(1000, 1000)] [] [] none f1 (by simp [bsl]) ?_
  simp
  refine goTest_dec (fun h3 => ?_) (fun h3 => ?_)
  · simp [h3]
    exact ⟨_, _, .mk (s) (a + 1) (by simp) (by omega), Ends.mk [] [(1000, 1000)] (by simp [bsl])⟩
  simp [h3]
  obtain ⟨k, hk, f2⟩ := pickI src (a + 1) s.length (by omega) (by omega)
  have hk2 : k < s.length := by omega
  refine goCall_gen [] [(1000, 1000)] [] [] none f2 (by simp [bsl]) ?_
  simp
  obtain ⟨r3, hr3, f3⟩ := pickI src (a + 1 + 1) 4 (by omega) (by omega)
  refine goCall_gen [] [(1000, 1000)] [] [] none f3 (by simp [bsl]) ?_
  simp
  refine goTest_dec (fun h4 => ?_) (fun h4 => ?_)
  · simp [h4]
    exact ⟨by omega, _, _, .mk (s.take k) (a + 1 + 1 + 1) (by simp; omega) (by omega), Ends.mk [] [(1000, 1000)] (by simp [bsl])⟩
  simp [h4]
  refine goTest_dec (fun h5 => ?_) (fun h5 => ?_)
  · simp [h5]
    exact ⟨by omega, _, _, .mk (s ++ [0]) (a + 1 + 1 + 1) (by simp) (by omega), Ends.mk [] [(1000, 1000)] (by simp [bsl])⟩
  simp [h5]
  refine goTest_dec (fun h6 => ?_) (fun h6 => ?_)
  · simp [h6]
    exact ⟨by omega, by omega, by omega, by omega, _, _, .mk (s.take k ++ s.drop (k + 1)) (a + 1 + 1 + 1) (by simp; omega) (by omega), Ends.mk [] [(1000, 1000)] (by simp [bsl])⟩
  simp [h6]
  obtain ⟨r7, hr7, f7⟩ := pickI src (a + 1 + 1 + 1) 256 (by omega) (by omega)
  refine ⟨by omega, goDCall_gen [] [(1000, 1000)] [] [] none f7 (by simp [bsl]) (by simp [bsl]) ?_⟩
  have e7 : IntKind.u8.wrap (r7 : Int) = r7 := wrap_byte (by omega) (by omega)
  simp [bsl, e7]
  exact ⟨by omega, by omega, by omega, by omega, _, _, .mk (s.take k ++ UInt8.ofNat r7 :: s.drop (k + 1)) (a + 1 + 1 + 1 + 1) (by simp; omega) (by omega), Ends.mk [] [(1000, 1000)] (by simp [bsl])⟩

/-- Findings that were drawn. -/
inductive FsR (src : List UInt8) (a k : Int) (n : Nat) : V → List (List V) → Prop
  | mk (l : List (Int × Int)) (b : Int) (h : l.length ≤ n) (hb : a ≤ b ∧ b ≤ a + k) : FsR src a k n (.sl (some 0) 2 (l.map fV)) [[bsl src, .int .i64 b]]
end

section
set_option maxRecDepth 20000
attribute [-simp] List.getD_eq_getElem?_getD

theorem nth_ext {α : Type} [Inhabited α] {a b : List α} (hl : a.length = b.length) (h : ∀ i, i < a.length → nth a i = nth b i) : a = b :=
  List.ext_getElem hl fun i h1 h2 => by rw [← nth_eq h1, ← nth_eq h2]; exact h i h1

theorem nth_all {α : Type} [Inhabited α] {a b : List α} {i : Nat} (h : ∀ k, k < i → nth a k = nth b k) (h2 : nth a i = nth b i) : ∀ k, k < i + 1 → nth a k = nth b k := fun k hk => by
  rcases Nat.lt_succ_iff_lt_or_eq.1 hk with h3 | rfl
  · exact h k h3
  · exact h2

theorem sameFound_ok (a b : List (Int × Int)) (ha : a.length ≤ 1000000000000) : Fn Tryz.prog fn_laws_sameFound [fsl a, fsl b] [] (.bool (decide (a = b))) [] := by
  refine Fn.of_go ln_laws_sameFound rfl ?_
  simp [ac_laws_sameFound, fsl]
  refine goTest_dec (fun hl => ?_) (fun hl => ?_)
  rotate_left
  · simp [hl]
    exact Ends.mk [] [] (by simp [show a ≠ b from fun e => hl (by rw [e])])
  simp [hl]
  refine go_loop (fun i => { env := [(0, fsl a), (1, fsl b), (5, .int .i64 (i : Nat))], loc := [], box := [], stat := [] }) (fun i => i ≤ a.length ∧ ∀ k, k < i → nth a k = nth b k) (fun i => a.length - i) 0 ⟨by omega, fun k hk => by omega⟩ (Weak.of [] [] (by simp [fsl])) ?_
  rintro i ⟨hi, hp⟩
  simp [fsl, hl]
  refine goTest_dec (fun hlt => ?_) (fun hge => ?_)
  · have hlt1 : i < a.length := by omega
    have hlt2 : i < b.length := by omega
    simp [hlt, hlt1, hlt2, fV]
    by_cases h1 : nth a i = nth b i
    · simp [h1]
      exact ⟨by omega, .mk (i + 1) ⟨by omega, nth_all hp h1⟩ (by omega) (Weak.of [] [] (by simp [fsl]))⟩
    · refine goTest_bool (fun h2 => ?_) (fun h2 => ?_)
      · simp [h2]
        exact Ends.mk [] [] (by simp [show a ≠ b from fun e => h1 (by rw [e])])
      · exact absurd (by simpa [Prod.ext_iff] using h2) h1
  · obtain rfl : i = a.length := by omega
    simp [hl]
    exact Ends.mk [] [] (by simp [nth_ext hl hp])


/-- A text that is not long. -/
inductive TextR (n : Nat) : V → List (List V) → Prop
  | mk (t : List UInt8) (h : t.length ≤ n) : TextR n (.str t) []
end

section
set_option maxRecDepth 20000
attribute [-simp] List.getD_eq_getElem?_getD getD_cons'

theorem bytesOf_map : ∀ l : List UInt8, bytesOf (l.map byteV) = some l
  | [] => rfl
  | c :: r => by
    have ih := bytesOf_map r
    have h := c.toNat_lt
    simp [bytesOf, byteOf, byteV, ih]

end

section
set_option maxRecDepth 20000
attribute [-simp] List.getD_eq_getElem?_getD

def inS (n : Int) : Bool := decide (0 ≤ n) && decide (n < 65536)

theorem l3Ok_ok (n : Int) : Fn Tryz.prog fn_spec_l3Ok [.int .i64 n] [] (.bool (inS n)) [] := by
  refine Fn.of_go ln_spec_l3Ok rfl ?_
  have h : inB n 0 65535 = inS n := by rw [Bool.eq_iff_iff]; simp [inB, inS]; omega
  simp [ac_spec_l3Ok]
  refine goCall_eq (l6In_ok _ _ _) (by simp) ?_
  simp [h]
  exact Ends.mk [] [] (by simp)

theorem serialOk_ok (n : Int) : Fn Tryz.prog fn_impl_serialOk [.int .i64 n] [] (.bool (inS n)) [] := by
  refine Fn.of_go ln_impl_serialOk rfl ?_
  simp [ac_impl_serialOk]
  refine goTest_dec (fun h => ?_) (fun h => ?_) <;> simp [h]
  · exact Ends.mk [] [] (by simp [inS, h])
  · exact Ends.mk [] [] (by simp [inS, h])

structure Msg where
  stream : Int
  ssn : Int
  loose : Bool
  text : List UInt8

def mV (m : Msg) : V := .agg [.int .i64 m.stream, .int .i64 m.ssn, .bool m.loose, .str m.text]

/-- A number that was drawn. -/
inductive IntR (src : List UInt8) (a k : Int) (lo hi : Int) : V → List (List V) → Prop
  | mk (n b : Int) (h : lo ≤ n ∧ n ≤ hi) (hb : a ≤ b ∧ b ≤ a + k) : IntR src a k lo hi (.int .i64 n) [[bsl src, .int .i64 b]]

theorem l91Word_ok (src : List UInt8) (a : Int) (h : 0 ≤ a ∧ a < 100000000) : ∃ R bo, IntR src a 4 (-1) 65791 R bo ∧
    Fn Tryz.prog fn_spec_l91Word [.ptr 1000 0] [[bsl src, .int .i64 a]] R bo := by
  refine Fx.of_go ln_spec_l91Word rfl ?_
  simp [ac_spec_l91Word, bsl]
  refine goPick (n := 12) (a := a) rfl (by omega) (by omega) fun r1 h1 => ?_
  simp
  refine goTest_dec (fun h2 => ?_) (fun h2 => ?_)
  · simp [h2]
    refine goPick (n := 6) (a := a + 1) rfl (by omega) (by omega) fun r2 hr => ?_
    have hr2 : r2 < 6 := by omega
    simp [hr2]
    have h3 : r2 = 0 ∨ r2 = 1 ∨ r2 = 2 ∨ r2 = 3 ∨ r2 = 4 ∨ r2 = 5 := by omega
    rcases h3 with rfl | rfl | rfl | rfl | rfl | rfl
    · simp
      exact ⟨_, _, .mk (-1) (a + 1 + 1) (by omega) (by omega), Ends.mk [] [(1000, 1000)] (by simp [bsl])⟩
    · simp
      exact ⟨_, _, .mk (0) (a + 1 + 1) (by omega) (by omega), Ends.mk [] [(1000, 1000)] (by simp [bsl])⟩
    · simp
      exact ⟨_, _, .mk (65535) (a + 1 + 1) (by omega) (by omega), Ends.mk [] [(1000, 1000)] (by simp [bsl])⟩
    · simp
      exact ⟨_, _, .mk (65536) (a + 1 + 1) (by omega) (by omega), Ends.mk [] [(1000, 1000)] (by simp [bsl])⟩
    · simp
      exact ⟨_, _, .mk (256) (a + 1 + 1) (by omega) (by omega), Ends.mk [] [(1000, 1000)] (by simp [bsl])⟩
    · simp
      exact ⟨_, _, .mk (255) (a + 1 + 1) (by omega) (by omega), Ends.mk [] [(1000, 1000)] (by simp [bsl])⟩
  simp [h2]
  refine goTest_dec (fun h3 => ?_) (fun h3 => ?_)
  · simp [h3]
    refine goPick (n := 6) (a := a + 1) rfl (by omega) (by omega) fun r2 hr => ?_
    simp
    exact ⟨by omega, _, _, .mk (65530 + (r2 : Int)) (a + 1 + 1) (by omega) (by omega), Ends.mk [] [(1000, 1000)] (by simp [bsl])⟩
  simp [h3]
  refine goTest_dec (fun h4 => ?_) (fun h4 => ?_)
  · simp [h4]
    refine goPick (n := 6) (a := a + 1) rfl (by omega) (by omega) fun r2 hr => ?_
    simp
    exact ⟨by omega, _, _, .mk (65530 + (r2 : Int)) (a + 1 + 1) (by omega) (by omega), Ends.mk [] [(1000, 1000)] (by simp [bsl])⟩
  simp [h4]
  refine goTest_dec (fun h5 => ?_) (fun h5 => ?_)
  · simp [h5]
    refine goPick (n := 256) (a := a + 1) rfl (by omega) (by omega) fun r2 hr => ?_
    simp
    refine ⟨by omega, goPick (n := 256) (a := a + 1 + 1) rfl (by omega) (by omega) fun r3 hr3 => ?_⟩
    simp
    exact ⟨by omega, _, _, .mk (256 * (r2 : Int) + (r3 : Int)) (a + 1 + 1 + 1) (by omega) (by omega), Ends.mk [] [(1000, 1000)] (by simp [bsl])⟩
  · simp [h5]
    refine goPick (n := 20) (a := a + 1) rfl (by omega) (by omega) fun r2 hr => ?_
    simp
    exact ⟨_, _, .mk (r2 : Int) (a + 1 + 1) (by omega) (by omega), Ends.mk [] [(1000, 1000)] (by simp [bsl])⟩

theorem l91Bytes_ok (src : List UInt8) (a : Int) (n : Nat) (hn : n ≤ 1000) (h : 0 ≤ a ∧ a < 100000000) : ∃ R bo, StrR src a (1 + 2 * n) n R bo ∧
    Fn Tryz.prog fn_spec_l91Bytes [.ptr 1000 0, .int .i64 n] [[bsl src, .int .i64 a]] R bo := by
  refine Fx.of_go ln_spec_l91Bytes rfl ?_
  simp [ac_spec_l91Bytes, bsl]
  refine ⟨by omega, goPick (a := a) rfl (by omega) (by omega) fun k hk => ?_⟩
  simp
  refine go_loop (fun x : Nat × List UInt8 × Int => { env := [(0, .ptr 1000 0), (5, .sl (some 0) 1 (x.2.1.map byteV)), (6, .int .i64 (k : Nat)), (7, .int .i64 (x.1 : Nat))], loc := [], box := [(1000, [bsl src, .int .i64 x.2.2])], stat := [(0, some (.own x.2.1.length 1))] })
    (fun x => x.1 ≤ k ∧ x.2.1.length = x.1 ∧ a ≤ x.2.2 ∧ x.2.2 ≤ a + 1 + 2 * x.1) (fun x => k - x.1) (0, [], a + 1) ⟨by omega, rfl, by simp; omega, by simp⟩ (Weak.of [(0, some 128, 0, 1)] [(1000, 1000)] (by simp [bsl])) ?_
  rintro ⟨i, l, b⟩ ⟨hi, hl, hb1, hb2⟩
  simp at hi hl hb1 hb2
  simp [bsl]
  refine goTest_dec (fun hlt => ?_) (fun hge => ?_)
  · simp [hlt]
    refine goPick (n := 16) (a := b) rfl (by omega) (by omega) fun r1 h1 => ?_
    simp
    refine goPick (n := 18) (a := b + 1) rfl (by omega) (by omega) fun r2 h2 => ?_
    obtain ⟨p, hp, hp2⟩ : ∃ p : Nat, (r1 : Int) * (r2 : Int) = p ∧ p ≤ 255 := ⟨r1 * r2, by simp, Nat.le_trans (Nat.mul_le_mul (show r1 ≤ 15 by omega) (show r2 ≤ 17 by omega)) (by decide)⟩
    have e5 : IntKind.u8.wrap (p : Int) = p := wrap_byte (by omega) (by omega)
    simp [hp, e5]
    refine ⟨by omega, by simp [roomOk]; omega, by omega, .mk (i + 1, l ++ [UInt8.ofNat p], b + 1 + 1) ⟨by simp; omega, by simp; omega, by simp; omega, by simp; omega⟩ (by simp; omega) (Weak.of [(0, some 0, l.length + 1, 1)] [(1000, 1000)] (by simp [bsl]; omega))⟩
  · simp [hge, bytesOf_map]
    exact ⟨_, _, .mk l b (by omega) (by omega), Ends.mk [] [(1000, 1000)] (by simp [bsl])⟩

/-- A message that was drawn. -/
inductive MsgR : V → List (List V) → Prop
  | mk (m : Msg) (h : m.text.length ≤ 8) (h2 : -1 ≤ m.ssn ∧ m.ssn ≤ 65791) (h3 : -1 ≤ m.stream ∧ m.stream ≤ 65791) : MsgR (mV m) []
end

section
attribute [-simp] List.getD_eq_getElem?_getD

/-- A part of a message. -/
structure Part where
  tsn : Int
  stream : Int
  ssn : Int
  first : Bool
  last : Bool
  loose : Bool
  text : List UInt8
deriving DecidableEq, Inhabited

def Part.cells (d : Part) : List V := [.int .i64 d.tsn, .int .i64 d.stream, .int .i64 d.ssn, .bool d.first, .bool d.last, .bool d.loose, .str d.text]
def Part.v (d : Part) : V := .agg d.cells
def psl (l : List Part) : V := .sl none 7 (l.map Part.v)

structure Chunk where
  kind : Int
  flags : Int
  body : List UInt8
deriving DecidableEq, Inhabited

def Chunk.cells (c : Chunk) : List V := [.int .i64 c.kind, .int .i64 c.flags, .str c.body]
def Chunk.v (c : Chunk) : V := .agg c.cells
def csl (l : List Chunk) : V := .sl none 3 (l.map Chunk.v)

structure Packet where
  src : Int
  dst : Int
  tag : Int
  chunks : List Chunk
deriving DecidableEq, Inhabited

def Packet.cells (p : Packet) : List V := [.int .i64 p.src, .int .i64 p.dst, .int .i64 p.tag, csl p.chunks]
def Packet.v (p : Packet) : V := .agg p.cells

structure Hello where
  tag : Int
  window : Int
  streams : Int
  tsn : Int
deriving DecidableEq, Inhabited

def Hello.cells (x : Hello) : List V := [.int .i64 x.tag, .int .i64 x.window, .int .i64 x.streams, .int .i64 x.tsn]
def Hello.v (x : Hello) : V := .agg x.cells

def gV (g : Int × Int) : V := .agg [.int .i64 g.1, .int .i64 g.2]

structure Sack where
  cum : Int
  gaps : List (Int × Int)
deriving DecidableEq, Inhabited

def Sack.cells (x : Sack) : List V := [.int .i64 x.cum, .sl none 2 (x.gaps.map gV)]
def Sack.v (x : Sack) : V := .agg x.cells

structure Side where
  tag : Int
  streams : Int
  first : Int
  sent : List Part
  acked : Int
deriving DecidableEq, Inhabited

def Side.cells (s : Side) : List V := [.int .i64 s.tag, .int .i64 s.streams, .int .i64 s.first, psl s.sent, .int .i64 s.acked]
def Side.v (s : Side) : V := .agg s.cells
/-- A side whose parts lie in storage of its own. -/
def Side.own (σ : Nat) (s : Side) : List V := [.int .i64 s.tag, .int .i64 s.streams, .int .i64 s.first, .sl (some σ) 7 (s.sent.map Part.v), .int .i64 s.acked]

structure Assoc where
  src : Int
  dst : Int
  state : Int
  byB : Bool
  a : Side
  b : Side
deriving DecidableEq, Inhabited

def Assoc.cells (x : Assoc) : List V := [.int .i64 x.src, .int .i64 x.dst, .int .i64 x.state, .bool x.byB] ++ x.a.cells ++ x.b.cells
def Assoc.v (x : Assoc) : V := .agg x.cells
def Assoc.own (σ τ : Nat) (x : Assoc) : List V := [.int .i64 x.src, .int .i64 x.dst, .int .i64 x.state, .bool x.byB] ++ x.a.own σ ++ x.b.own τ

structure Monitor where
  records : Int
  list : List Assoc
  found : List (Int × Int)
deriving DecidableEq, Inhabited

def Monitor.cells (m : Monitor) : List V := [.int .i64 m.records, .sl none 14 (m.list.map Assoc.v), fsl m.found]
def Monitor.v (m : Monitor) : V := .agg m.cells
end

end Go.Proofs.YtpcfbgeabehmbaaGreat
