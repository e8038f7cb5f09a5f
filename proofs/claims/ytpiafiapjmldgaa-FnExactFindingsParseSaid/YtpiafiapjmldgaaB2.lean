/-
  Texts: cutting and numbers.
-/
import Derived.Test.YtpiafiapjmldgaaB1
import Derived.Test.YtpiafiapjmldgaaLib
namespace Go.Proofs.Ytpiafiapjmldgaa
set_option linter.all false
set_option maxRecDepth 20000
attribute [-simp] List.getD_eq_getElem?_getD

/-- A text put ahead of the first part. -/
def gl (p : List UInt8) : List (List UInt8) → List (List UInt8)
  | [] => [p]
  | h :: t => (p ++ h) :: t

/-- A text, cut at every byte of a kind. -/
def cutAll (c : UInt8) : List UInt8 → List (List UInt8)
  | [] => [[]]
  | x :: r => if x = c then [] :: cutAll c r else gl [x] (cutAll c r)

theorem gl_gl (p q : List UInt8) (l : List (List UInt8)) : gl p (gl q l) = gl (p ++ q) l := by cases l <;> simp [gl]
theorem gl_nil {l : List (List UInt8)} (h : l ≠ []) : gl [] l = l := by cases l <;> simp_all [gl]
theorem cutAll_ne (c : UInt8) (l : List UInt8) : cutAll c l ≠ [] := by
  cases l with
  | nil => simp [cutAll]
  | cons x r => simp only [cutAll]; split; simp; cases cutAll c r <;> simp [gl]

theorem drop_nth {α : Type} [Inhabited α] {l : List α} {i : Nat} (h : i < l.length) : l.drop i = nth l i :: l.drop (i + 1) := by
  rw [nth_eq h]; exact List.drop_eq_getElem_cons h

theorem idx_nth {l : List UInt8} {i : Nat} (h : i < l.length) : l.getD i 0 = nth l i := getD_nth h

def strs (l : List (List UInt8)) : List V := l.map V.str

theorem l42Cut_ok (s : List UInt8) (c : UInt8) (hs : s.length ≤ 4294967296) : Fn Try.prog fn_spec_l42Cut [.str s, .int .u8 c.toNat] [] (.sl (some 0) 1 ((cutAll c s).map V.str)) [] := by
  refine Fn.of_go ln_spec_l42Cut rfl ?_
  simp [ac_spec_l42Cut]
  refine go_loop (fun (x : Nat × Nat × List (List UInt8)) => { env := [(0, .str s), (1, .int .u8 c.toNat), (5, .sl (some 0) 1 (x.2.2.map V.str)), (6, .int .i64 (x.2.1 : Nat)), (7, .int .i64 (x.1 : Nat))], loc := [], box := [], stat := [(0, some (.own x.2.2.length 1))] })
    (fun x => x.2.1 ≤ x.1 ∧ x.1 ≤ s.length ∧ x.2.2.length ≤ x.1 ∧ cutAll c s = x.2.2 ++ gl ((s.take x.1).drop x.2.1) (cutAll c (s.drop x.1))) (fun x => s.length - x.1) (0, 0, [])
    ⟨by simp, by simp, by simp, by simp [gl_nil (cutAll_ne c s)]⟩ (Weak.of [(0, some 128, 0, 1)] [] (by simp)) ?_
  rintro ⟨i, f, out⟩ ⟨h1, h2, h3, h4⟩
  simp only at h1 h2 h3 h4
  simp
  refine goTest_dec (fun hlt => ?_) (fun hge => ?_)
  · have hn := idx_nth hlt
    have ht : (s.take (i + 1)).drop f = (s.take i).drop f ++ [nth s i] := by
      rw [take_nth hlt, List.drop_append_of_le_length (by simp; omega)]
    rw [drop_nth hlt] at h4
    have hc : ((nth s i).toNat = c.toNat) ↔ nth s i = c := by rw [UInt8.toNat_inj]
    simp [hlt, hn]
    refine goTest_dec (fun he => ?_) (fun he => ?_)
    · have he2 := hc.1 he
      rw [cutAll, if_pos he2] at h4
      simp [he]
      refine ⟨⟨h1, by omega⟩, ⟨by simp [roomOk]; omega, ?_⟩⟩
      refine ⟨by omega, .mk (i + 1, i + 1, out ++ [(s.take i).drop f]) ⟨by simp, hlt, by simp; omega, ?_⟩ (by simp; omega) (Weak.of [(0, some 0, out.length + 1, 1)] [] (by simp))⟩
      have e0 : (s.take (i + 1)).drop (i + 1) = [] := by simp
      show cutAll c s = (out ++ [(s.take i).drop f]) ++ gl ((s.take (i + 1)).drop (i + 1)) (cutAll c (s.drop (i + 1)))
      rw [h4, e0, gl_nil (cutAll_ne c _)]
      simp [gl]
    · have he2 : ¬ nth s i = c := fun q => he (hc.2 q)
      rw [cutAll, if_neg he2, gl_gl, ← ht] at h4
      simp [he]
      exact ⟨by omega, .mk (i + 1, f, out) ⟨by simp; omega, hlt, by simp; omega, h4⟩ (by simp; omega) (Weak.of [(0, some 0, out.length, 1)] [] (by simp))⟩
  · obtain rfl : i = s.length := by omega
    simp [cutAll, gl] at h4
    simp
    refine ⟨h1, by simp [roomOk]; omega, ?_⟩
    exact Ends.mk [(0, some 0, out.length + 1, 1)] [] (by simp [h4])
def dig (c : UInt8) : Bool := 48 ≤ c.toNat && c.toNat ≤ 57

/-- The number of decimal digits. -/
def decN (l : List UInt8) : Nat := l.foldl (fun n c => 10 * n + (c.toNat - 48)) 0

def smallOk (l : List UInt8) : Bool := 1 ≤ l.length && l.length ≤ 3 && (l.length == 1 || (l.getD 0 0).toNat != 48) && l.all dig

theorem dec_lt : ∀ (l : List UInt8) (n : Nat), (∀ c ∈ l, dig c = true) → l.foldl (fun n c => 10 * n + (c.toNat - 48)) n < 10 ^ l.length * (n + 1)
  | [], n, _ => by show n < 1 * (n + 1); omega
  | c :: r, n, h => by
    have h1 := dec_lt r (10 * n + (c.toNat - 48)) fun x hx => h x (List.mem_cons_of_mem _ hx)
    have h2 := h c List.mem_cons_self
    simp only [dig, Bool.and_eq_true, decide_eq_true_eq] at h2
    rw [List.foldl_cons, List.length_cons, Nat.pow_succ, Nat.mul_assoc]
    exact Nat.lt_of_lt_of_le h1 (Nat.mul_le_mul_left _ (by omega))

theorem decN_lt {l : List UInt8} (h : ∀ c ∈ l, dig c = true) : decN l < 10 ^ l.length := by
  have := dec_lt l 0 h
  simp only [Nat.zero_add, Nat.mul_one] at this; exact this

theorem decN_snoc {l : List UInt8} {i : Nat} (h : i < l.length) : decN (l.take (i + 1)) = 10 * decN (l.take i) + ((l.getD i 0).toNat - 48) := by
  rw [List.take_add_one, decN, List.foldl_append]
  simp [decN, h, List.getD_eq_getElem?_getD]


theorem dig_iff {c : UInt8} : dig c = true ↔ 48 ≤ c.toNat ∧ c.toNat ≤ 57 := by simp [dig]

/-- The number of a text; 'none' where it is none. -/
theorem smallNumber_ok (l : List UInt8) : Fn Try.prog fn_impl_smallNumber [.str l] [] (.tup [.int .i64 (if smallOk l then decN l else 0), .bool (smallOk l)]) [] := by
  refine Fn.of_go ln_impl_smallNumber rfl ?_
  by_cases h1 : l = []
  · subst h1
    simp [ac_impl_smallNumber]
    exact Ends.mk [] [] (by simp [smallOk])
  have hl1 : 0 < l.length := List.length_pos_iff.2 h1
  have hn0 := idx_nth hl1
  simp [ac_impl_smallNumber, h1]
  have hok : ¬ 3 < l.length → ¬ (1 < l.length ∧ (nth l 0).toNat = 48) → smallOk l = l.all dig := fun h2 h4 => by
    have h7 : (l.length == 1 || (l.getD 0 0).toNat != 48) = true := by
      have : l.length = 1 ∨ (nth l 0).toNat ≠ 48 := by omega
      simpa [hn0] using this
    have h5 : 1 ≤ l.length := by omega
    have h6 : l.length ≤ 3 := by omega
    simp only [smallOk, h7]
    simp [h5, h6]
  refine goTest_dec (fun h2 => ?_) (fun h2 => ?_)
  · have e : smallOk l = false := by simp [smallOk]; omega
    simp [h2, e]
    exact Ends.mk [] [] (by simp)
  simp [h2]
  repeat' (first
    | (refine goTest_dec (fun h => ?_) (fun h => ?_) <;> simp [h, h1, hl1, hn0])
    | (refine go_loop (fun i => { env := [(0, .str l), (4, .int .i64 (decN (l.take i) : Nat)), (5, .int .i64 (i : Nat))], loc := [], box := [], stat := [] }) (fun i => i ≤ l.length ∧ (∀ x ∈ l.take i, dig x = true) ∧ smallOk l = l.all dig) (fun i => l.length - i) 0 ⟨by omega, by simp, hok h2 (by omega)⟩ (Weak.of [] [] (by simp [decN])) ?_)
    | exact Ends.mk [] [] (by simp [show smallOk l = false by simp [smallOk, *]; omega]))
  all_goals
    rintro i ⟨hi, hdi, hok⟩
    have hlt2 := decN_lt hdi
    simp
    refine goTest_dec (fun hlt => ?_) (fun hge => ?_)
    · have hlen : (l.take i).length ≤ 2 := by simp; omega
      have hpow : 10 ^ (l.take i).length ≤ 10 ^ 2 := Nat.pow_le_pow_right (by omega) hlen
      have hn := idx_nth hlt
      have hsn := decN_snoc hlt
      rw [hn] at hsn
      have hbad : dig (nth l i) = false → smallOk l = false := fun q => by rw [hok, List.all_eq_false]; exact ⟨_, nth_mem hlt, by simp [q]⟩
      have hu := (nth l i).toNat_lt
      simp [hlt, hn]
      repeat' (first
        | (refine goTest_dec (fun h => ?_) (fun h => ?_) <;> simp [h, hlt, hn])
        | exact Ends.mk [] [] (by simp [hbad (by simp [dig]; omega)]))
      have hdd : dig (nth l i) = true := by simp [dig]; omega
      rw [wrap_i64 (by omega) (by omega)]
      exact ⟨by omega, by omega, by omega, by omega, .mk (i + 1) ⟨hlt, fun x hx => by
        rw [take_nth hlt, List.mem_append] at hx
        rcases hx with hx | hx
        · exact hdi x hx
        · rw [List.mem_singleton.1 hx]; exact hdd, hok⟩ (by omega) (Weak.of [] [] (by simp [hsn]; omega))⟩
    · obtain rfl : i = l.length := by omega
      have : smallOk l = true := by rw [hok]; simpa using hdi
      simp
      exact Ends.mk [] [] (by simp [this])

def numS (l : List UInt8) : Int := if smallOk l then decN l else -1

theorem l42Number_ok (l : List UInt8) : Fn Try.prog fn_spec_l42Number [.str l] [] (.int .i64 (numS l)) [] := by
  refine Fn.of_go ln_spec_l42Number rfl ?_
  by_cases h1 : l = []
  · subst h1
    simp [ac_spec_l42Number]
    refine goCall_eq (l6In_ok _ _ _) (by simp) ?_
    simp [inB]
    exact Ends.mk [] [] (by simp [numS, smallOk])
  have hl1 : 0 < l.length := List.length_pos_iff.2 h1
  have hn0 := idx_nth hl1
  have hin : inB (l.length : Int) 1 3 = decide (l.length ≤ 3) := by
    rw [Bool.eq_iff_iff]; simp [inB]; omega
  have hok : l.length ≤ 3 → ¬ (1 < l.length ∧ (nth l 0).toNat = 48) → smallOk l = l.all dig := fun h2 h4 => by
    have h7 : (l.length == 1 || (l.getD 0 0).toNat != 48) = true := by
      have : l.length = 1 ∨ (nth l 0).toNat ≠ 48 := by omega
      simpa [hn0] using this
    have h5 : 1 ≤ l.length := by omega
    simp only [smallOk, h7]
    simp [h5, h2]
  simp [ac_spec_l42Number]
  refine goCall_eq (l6In_ok _ _ _) (by simp) ?_
  simp [hin]
  refine goTest_dec (fun h2 => ?_) (fun h2 => ?_)
  rotate_left
  · have e : smallOk l = false := by simp [smallOk]; omega
    simp [h2]
    exact Ends.mk [] [] (by simp [numS, e])
  simp [h2]
  repeat' (first
    | (refine goTest_dec (fun h => ?_) (fun h => ?_) <;> simp [h, h1, hl1, hn0])
    | (refine go_loop (fun i => { env := [(0, .str l), (3, .int .i64 (decN (l.take i) : Nat)), (4, .int .i64 (i : Nat))], loc := [], box := [], stat := [] }) (fun i => i ≤ l.length ∧ (∀ x ∈ l.take i, dig x = true) ∧ smallOk l = l.all dig) (fun i => l.length - i) 0 ⟨by omega, by simp, hok h2 (by omega)⟩ (Weak.of [] [] (by simp [decN])) ?_)
    | exact Ends.mk [] [] (by simp [numS, show smallOk l = false by simp [smallOk, *]; omega]))
  all_goals
    rintro i ⟨hi, hdi, hok⟩
    have hlt2 := decN_lt hdi
    simp
    refine goTest_dec (fun hlt => ?_) (fun hge => ?_)
    · have hlen : (l.take i).length ≤ 2 := by simp; omega
      have hpow : 10 ^ (l.take i).length ≤ 10 ^ 2 := Nat.pow_le_pow_right (by omega) hlen
      have hn := idx_nth hlt
      have hsn := decN_snoc hlt
      rw [hn] at hsn
      have hbad : dig (nth l i) = false → smallOk l = false := fun q => by rw [hok, List.all_eq_false]; exact ⟨_, nth_mem hlt, by simp [q]⟩
      have hu := (nth l i).toNat_lt
      simp [hlt, hn]
      repeat' (first
        | (refine goTest_dec (fun h => ?_) (fun h => ?_) <;> simp [h, hlt, hn])
        | exact Ends.mk [] [] (by simp [numS, hbad (by simp [dig]; omega)]))
      have hdd : dig (nth l i) = true := by simp [dig]; omega
      rw [wrap_i64 (by omega) (by omega)]
      exact ⟨by omega, by omega, by omega, by omega, .mk (i + 1) ⟨hlt, fun x hx => by
        rw [take_nth hlt, List.mem_append] at hx
        rcases hx with hx | hx
        · exact hdi x hx
        · rw [List.mem_singleton.1 hx]; exact hdd, hok⟩ (by omega) (Weak.of [] [] (by simp [hsn]; omega))⟩
    · obtain rfl : i = l.length := by omega
      have : smallOk l = true := by rw [hok]; simpa using hdi
      simp
      exact Ends.mk [] [] (by simp [numS, this])
end Go.Proofs.Ytpiafiapjmldgaa
