/-
  Draws: what is drawn returns, and what it returns is not long.
-/
import Derived.Test.YtpiafiapjmldgaaB6
namespace Go.Proofs.Ytpiafiapjmldgaa
set_option linter.all false
set_option maxRecDepth 20000
attribute [-simp] List.getD_eq_getElem?_getD

/-- The reader of a code. -/
def rdB (src : List UInt8) (a : Int) : List V := [bsl src, .int .i64 a]

theorem pickI (src : List UInt8) (a n : Int) (h : 0 ≤ a ∧ a < 1000000000) (hn : 0 < n ∧ n < 1000000) : ∃ r : Nat, (r : Int) < n ∧
    Fn Try.prog fn_spec_l6Rd_pick [.ptr 1000 0, .int .i64 n] [[bsl src, .int .i64 a]] (.int .i64 r) [[bsl src, .int .i64 (a + 1)]] := by
  obtain ⟨k, rfl⟩ := Int.eq_ofNat_of_zero_le h.1
  obtain ⟨r, h1, h2, h3⟩ := pick_ok src k n (by omega) (by omega)
  obtain ⟨i, rfl⟩ := Int.eq_ofNat_of_zero_le h1
  exact ⟨i, by omega, h3⟩

/-- A number is drawn. -/
theorem goPick {st : St} {p : Nat} {src : List UInt8} {a n : Int} {d : AD} {rs : List AOp} {k : List It} {Q : AE → St → Prop} (hb : lookB st.box p = some [bsl src, .int .i64 a]) (ha : 0 ≤ a ∧ a < 1000000000) (hn : 0 < n ∧ n < 1000000)
    (h : ∀ r : Nat, (r : Int) < n → go Try.prog (.ops rs :: k) Q .normal (Delta.apply { val := .int .i64 r, nb := [(p, [.sl none 1 (src.map byteV), .int .i64 (a + 1)])] } st d)) : goCall Try.prog fn_spec_l6Rd_pick [.ptr p 0, .int .i64 n] d rs k Q st := by
  obtain ⟨r, hr, f⟩ := pickI src a n ha hn
  refine goCall_gen [] [(1000, p)] [] [] none f (by simp [bsl, hb]) ?_
  have := h r hr
  simpa [bsl] using this

def ssl (l : List (List UInt8)) : V := .sl none 1 (l.map V.str)

theorem of_ok (src : List UInt8) (a : Int) (xs : List (List UInt8)) (h : 0 ≤ a ∧ a < 1000000000) (hx : 0 < xs.length) (hx2 : xs.length < 1000000) : ∃ s ∈ xs,
    Fn Try.prog fn_spec_l6Rd_of [.ptr 1000 0, ssl xs] [[bsl src, .int .i64 a]] (.str s) [[bsl src, .int .i64 (a + 1)]] := by
  obtain ⟨r, hr, hf⟩ := pickI src a xs.length h (by omega)
  have hr2 : r < xs.length := by omega
  refine ⟨nth xs r, nth_mem hr2, Fn.of_go ln_spec_l6Rd_of rfl ?_⟩
  simp [ac_spec_l6Rd_of, ssl, bsl]
  refine goCall_gen [] [(1000, 1000)] [] [] none hf (by simp [bsl]) ?_
  simp [bsl, hr2]
  exact Ends.mk [] [(1000, 1000)] (by simp)

/-- A text that was drawn. -/
inductive StrR (src : List UInt8) (a k : Int) (n : Nat) : V → List (List V) → Prop
  | mk (t : List UInt8) (b : Int) (h : t.length ≤ n) (hb : a ≤ b ∧ b ≤ a + k) : StrR src a k n (.str t) [[bsl src, .int .i64 b]]

theorem spoil_ok (src : List UInt8) (a : Int) (s : List UInt8) (h : 0 ≤ a ∧ a < 100000000) (hs : s.length < 100000) : ∃ R bo, StrR src a 4 (s.length + 1) R bo ∧
    Fn Try.prog fn_spec_l91Spoil [.ptr 1000 0, .str s] [[bsl src, .int .i64 a]] R bo := by
  refine Fx.of_go ln_spec_l91Spoil rfl ?_
  by_cases h1 : s = []
  · simp [ac_spec_l91Spoil, h1, bsl]
    exact ⟨_, _, .mk ([]) (a) (by simp) (by omega), Ends.mk [] [(1000, 1000)] (by simp [bsl])⟩
  have h2 : 0 < s.length := List.length_pos_iff.2 h1
  obtain ⟨r1, hr1, f1⟩ := pickI src a 3 (by omega) (by omega)
  simp [ac_spec_l91Spoil, h1, bsl]
  refine goCall_gen [] [(1000, 1000)] [] [] none f1 (by simp [bsl]) ?_
  simp
  refine goTest_dec (fun h3 => ?_) (fun h3 => ?_)
  · simp [h3]
    exact ⟨_, _, .mk (s) (a + 1) (by simp) (by omega), Ends.mk [] [(1000, 1000)] (by simp [bsl])⟩
  simp [h3]
  obtain ⟨k, hk, f2⟩ := pickI src (a + 1) s.length (by omega) (by omega)
  have hk2 : k < s.length := by omega
  refine goCall_gen [] [(1000, 1000)] [] [] none f2 (by simp [bsl]) ?_
  simp
  obtain ⟨r3, hr3, f3⟩ := pickI src (a + 1 + 1) 4 (by omega) (by omega)
  refine goCall_gen [] [(1000, 1000)] [] [] none f3 (by simp [bsl]) ?_
  simp
  refine goTest_dec (fun h4 => ?_) (fun h4 => ?_)
  · simp [h4]
    exact ⟨by omega, _, _, .mk (s.take k) (a + 1 + 1 + 1) (by simp; omega) (by omega), Ends.mk [] [(1000, 1000)] (by simp [bsl])⟩
  simp [h4]
  refine goTest_dec (fun h5 => ?_) (fun h5 => ?_)
  · simp [h5]
    exact ⟨by omega, _, _, .mk (s ++ [0]) (a + 1 + 1 + 1) (by simp) (by omega), Ends.mk [] [(1000, 1000)] (by simp [bsl])⟩
  simp [h5]
  refine goTest_dec (fun h6 => ?_) (fun h6 => ?_)
  · simp [h6]
    exact ⟨by omega, by omega, by omega, by omega, _, _, .mk (s.take k ++ s.drop (k + 1)) (a + 1 + 1 + 1) (by simp; omega) (by omega), Ends.mk [] [(1000, 1000)] (by simp [bsl])⟩
  simp [h6]
  obtain ⟨r7, hr7, f7⟩ := pickI src (a + 1 + 1 + 1) 256 (by omega) (by omega)
  refine ⟨by omega, goDCall_gen [] [(1000, 1000)] [] [] none f7 (by simp [bsl]) (by simp [bsl]) ?_⟩
  have e7 : IntKind.u8.wrap (r7 : Int) = r7 := wrap_byte (by omega) (by omega)
  simp [bsl, e7]
  exact ⟨by omega, by omega, by omega, by omega, _, _, .mk (s.take k ++ UInt8.ofNat r7 :: s.drop (k + 1)) (a + 1 + 1 + 1 + 1) (by simp; omega) (by omega), Ends.mk [] [(1000, 1000)] (by simp [bsl])⟩

theorem setEl_code {l : List (Int × Int)} {j : Nat} {c : Int} (h : j < l.length) : setEl j 1 [V.int .i64 c] (l.map fV) = (l.set j ((nth l j).1, c)).map fV := by
  unfold setEl
  rw [getD_map h, List.map_set]
  simp [fV, wrEl, setCells]

theorem setEl_rec {l : List (Int × Int)} {j : Nat} {c : Int} (h : j < l.length) : setEl j 0 [V.int .i64 c] (l.map fV) = (l.set j (c, (nth l j).2)).map fV := by
  unfold setEl
  rw [getD_map h, List.map_set]
  simp [fV, wrEl, setCells]

/-- Findings that were drawn. -/
inductive FsR (src : List UInt8) (a k : Int) (n : Nat) : V → List (List V) → Prop
  | mk (l : List (Int × Int)) (b : Int) (h : l.length ≤ n) (hb : a ≤ b ∧ b ≤ a + k) : FsR src a k n (.sl (some 0) 2 (l.map fV)) [[bsl src, .int .i64 b]]

theorem found_ok (src : List UInt8) (a : Int) (h : 0 ≤ a ∧ a < 100000000) : ∃ R bo, FsR src a 40 10 R bo ∧
    Fn Try.prog fn_spec_l92Found [.ptr 1000 0] [[bsl src, .int .i64 a]] R bo := by
  refine Fx.of_go ln_spec_l92Found rfl ?_
  obtain ⟨n, hn, f1⟩ := pickI src a 5 (by omega) (by omega)
  simp [ac_spec_l92Found, bsl]
  refine goCall_gen [] [(1000, 1000)] [] [] none f1 (by simp [bsl]) ?_
  simp [bsl]
  refine go_loop (fun x : Nat × Int × List (Int × Int) => { env := [(0, .ptr 1000 0), (3, .sl (some 0) 2 (x.2.2.map fV)), (4, .int .i64 (n : Nat)), (5, .int .i64 (x.1 : Nat))], loc := [], box := [(1000, [bsl src, .int .i64 x.2.1])], stat := [(0, some (.own x.2.2.length 2))] })
    (fun x => x.1 ≤ n ∧ x.2.2.length ≤ x.1 ∧ a ≤ x.2.1 ∧ x.2.1 ≤ a + 1 + 5 * x.1) (fun x => n - x.1) (0, a + 1, []) ⟨by omega, by simp, by simp; omega, by simp⟩ (Weak.of [(0, some 112, 0, 2)] [(1000, 1000)] (by simp [bsl])) ?_
  rintro ⟨i, b, l⟩ ⟨hi, hl, hb1, hb2⟩
  simp at hi hl hb1 hb2
  simp [bsl]
  refine goTest_dec (fun hlt => ?_) (fun hge => ?_)
  · simp [hlt]
    refine goPick rfl (by omega) (by omega) fun r1 h1 => ?_
    simp
    refine goPick rfl (by omega) (by omega) fun r2 h2 => ?_
    simp
    refine ⟨by omega, goPick rfl (by omega) (by omega) fun r3 h3 => ?_⟩
    simp
    have room : ∀ m, m ≤ 10 → roomOk m 16 := fun m hm => by unfold roomOk; omega
    by_cases hl0 : l = []
    · repeat' (first
        | (refine And.intro (by omega) ?_)
        | (refine And.intro (room _ (by omega)) ?_)
        | (refine goTest_dec (fun h => ?_) (fun h => ?_) <;> simp [h, hl0])
        | (refine goPick (n := 5) rfl (by omega) (by omega) fun r5 h5 => ?_; simp [hl0])
        | exact Again.mk (i + 1, b + 1 + 1 + 1 + 1, [((r1 : Int), 101 + (r5 : Int))]) ⟨by omega, by simp, by simp; omega, by simp; omega⟩ (by simp; omega) (Weak.of [(0, some 0, 1, 2)] [(1000, 1000)] (by simp [bsl, fV]))
        | exact Again.mk (i + 1, b + 1 + 1 + 1, [((r1 : Int), 1 + (r2 : Int))]) ⟨by omega, by simp, by simp; omega, by simp; omega⟩ (by simp; omega) (Weak.of [(0, some 0, 1, 2)] [(1000, 1000)] (by simp [bsl, fV])))
    · have hl1 : 0 < l.length := List.length_pos_iff.2 hl0
      have hl2 : l.length - 1 < l.length := by omega
      have hc : ((l.length : Int) - 1).toNat = l.length - 1 := by omega
      repeat' (first
        | (refine And.intro (by omega) ?_)
        | (refine And.intro (room _ (by omega)) ?_)
        | (refine goTest_dec (fun h => ?_) (fun h => ?_) <;> simp [h, hl0, hl2, hc, fV])
        | (refine goPick (n := 5) rfl (by omega) (by omega) fun r5 h5 => ?_; simp [hl0, hl2, hc, fV])
        | (refine goPick (n := 16) rfl (by omega) (by omega) fun r16 h16 => ?_; simp [hl0, hl2, hc, fV])
        | (refine goCall_eq (l32Less_ok (nth l (l.length - 1)) ((r1 : Int), 101 + (r5 : Int))) (by simp [fV]) ?_; simp)
        | (refine goCall_eq (l32Less_ok (nth l (l.length - 1)) ((r1 : Int), 1 + (r2 : Int))) (by simp [fV]) ?_; simp)
        | (refine goTest_bool (fun h => ?_) (fun h => ?_) <;> simp [h, hl0, hl2, hc, fV])
        | (refine Again.mk (i + 1, b + 1 + 1 + 1 + 1 + 1, l ++ [((r1 : Int), 101 + (r5 : Int))]) ⟨by omega, by simp; omega, by simp; omega, by simp; omega⟩ (by simp; omega) (Weak.of [(0, some 0, l.length + 1, 2)] [(1000, 1000)] ?_); simp [bsl, fV] <;> fail)
        | (refine Again.mk (i + 1, b + 1 + 1 + 1 + 1, l ++ [((r1 : Int), 101 + (r5 : Int))]) ⟨by omega, by simp; omega, by simp; omega, by simp; omega⟩ (by simp; omega) (Weak.of [(0, some 0, l.length + 1, 2)] [(1000, 1000)] ?_); simp [bsl, fV] <;> fail)
        | (refine Again.mk (i + 1, b + 1 + 1 + 1 + 1, l ++ [((r1 : Int), 1 + (r2 : Int))]) ⟨by omega, by simp; omega, by simp; omega, by simp; omega⟩ (by simp; omega) (Weak.of [(0, some 0, l.length + 1, 2)] [(1000, 1000)] ?_); simp [bsl, fV] <;> fail)
        | (refine Again.mk (i + 1, b + 1 + 1 + 1, l ++ [((r1 : Int), 1 + (r2 : Int))]) ⟨by omega, by simp; omega, by simp; omega, by simp; omega⟩ (by simp; omega) (Weak.of [(0, some 0, l.length + 1, 2)] [(1000, 1000)] ?_); simp [bsl, fV] <;> fail)
        | (refine Again.mk (i + 1, b + 1 + 1 + 1 + 1 + 1, l) ⟨by omega, by simp; omega, by simp; omega, by simp; omega⟩ (by simp; omega) (Weak.of [(0, some 0, l.length, 2)] [(1000, 1000)] ?_); simp [bsl, fV] <;> fail)
        | (refine Again.mk (i + 1, b + 1 + 1 + 1 + 1, l) ⟨by omega, by simp; omega, by simp; omega, by simp; omega⟩ (by simp; omega) (Weak.of [(0, some 0, l.length, 2)] [(1000, 1000)] ?_); simp [bsl, fV] <;> fail)
        )
  · simp [hge]
    refine goTest_dec (fun h0 => ?_) (fun h0 => ?_)
    · simp [h0]
      refine goPick (n := 16) rfl (by omega) (by omega) fun r16 h16 => ?_
      simp
      refine goTest_dec (fun h2 => ?_) (fun h2 => ?_)
      · simp [h2]
        refine goPick rfl (by omega) (by omega) fun j hj => ?_
        have hj2 : j < l.length := by omega
        simp
        refine goPick (n := 4) rfl (by omega) (by omega) fun r4 h4 => ?_
        have h42 : r4 < 4 := by omega
        have h43 : r4 = 0 ∨ r4 = 1 ∨ r4 = 2 ∨ r4 = 3 := by omega
        rcases h43 with rfl | rfl | rfl | rfl <;> simp [hj2, fV]
        · exact ⟨_, _, .mk (l.set j ((nth l j).1, 0)) (b + 1 + 1 + 1) (by simp; omega) (by omega), Ends.mk [(0, some 0, l.length, 2)] [(1000, 1000)] (by simp [bsl, setEl_code hj2])⟩
        · exact ⟨_, _, .mk (l.set j ((nth l j).1, 12)) (b + 1 + 1 + 1) (by simp; omega) (by omega), Ends.mk [(0, some 0, l.length, 2)] [(1000, 1000)] (by simp [bsl, setEl_code hj2])⟩
        · exact ⟨_, _, .mk (l.set j ((nth l j).1, 100)) (b + 1 + 1 + 1) (by simp; omega) (by omega), Ends.mk [(0, some 0, l.length, 2)] [(1000, 1000)] (by simp [bsl, setEl_code hj2])⟩
        · exact ⟨_, _, .mk (l.set j ((nth l j).1, 106)) (b + 1 + 1 + 1) (by simp; omega) (by omega), Ends.mk [(0, some 0, l.length, 2)] [(1000, 1000)] (by simp [bsl, setEl_code hj2])⟩
      · simp [h2]
        exact ⟨_, _, .mk l (b + 1) (by omega) (by omega), Ends.mk [(0, some 0, l.length, 2)] [(1000, 1000)] (by simp [bsl])⟩
    · simp [h0]
      exact ⟨_, _, .mk l b (by omega) (by omega), Ends.mk [(0, some 0, l.length, 2)] [(1000, 1000)] (by simp [bsl])⟩
end Go.Proofs.Ytpiafiapjmldgaa
