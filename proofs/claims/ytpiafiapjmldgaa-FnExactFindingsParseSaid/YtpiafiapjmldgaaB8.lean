/-
  Comparing findings, counting lines, and the draw of a text of findings.
-/
import Derived.Test.YtpiafiapjmldgaaB7
namespace Go.Proofs.Ytpiafiapjmldgaa
set_option linter.all false
set_option maxRecDepth 20000
attribute [-simp] List.getD_eq_getElem?_getD

theorem nth_ext {α : Type} [Inhabited α] {a b : List α} (hl : a.length = b.length) (h : ∀ i, i < a.length → nth a i = nth b i) : a = b :=
  List.ext_getElem hl fun i h1 h2 => by rw [← nth_eq h1, ← nth_eq h2]; exact h i h1

theorem nth_all {α : Type} [Inhabited α] {a b : List α} {i : Nat} (h : ∀ k, k < i → nth a k = nth b k) (h2 : nth a i = nth b i) : ∀ k, k < i + 1 → nth a k = nth b k := fun k hk => by
  rcases Nat.lt_succ_iff_lt_or_eq.1 hk with h3 | rfl
  · exact h k h3
  · exact h2

theorem eqFindingS_ok (a b : List (Int × Int)) (ha : a.length ≤ 1000000000000) : Fn Try.prog fn_laws_eqFindingS [fsl a, fsl b] [] (.bool (decide (a = b))) [] := by
  refine Fn.of_go ln_laws_eqFindingS rfl ?_
  simp [ac_laws_eqFindingS, fsl]
  refine goTest_dec (fun hl => ?_) (fun hl => ?_)
  rotate_left
  · simp [hl]
    exact Ends.mk [] [] (by simp [show a ≠ b from fun e => hl (by rw [e])])
  simp [hl]
  refine go_loop (fun i => { env := [(0, fsl a), (1, fsl b), (5, .int .i64 (i : Nat))], loc := [], box := [], stat := [] }) (fun i => i ≤ a.length ∧ ∀ k, k < i → nth a k = nth b k) (fun i => a.length - i) 0 ⟨by omega, fun k hk => by omega⟩ (Weak.of [] [] (by simp [fsl])) ?_
  rintro i ⟨hi, hp⟩
  simp [fsl, hl]
  refine goTest_dec (fun hlt => ?_) (fun hge => ?_)
  · have hlt1 : i < a.length := by omega
    have hlt2 : i < b.length := by omega
    simp [hlt, hlt1, hlt2, fV]
    refine goCall_eq (eqFinding_ok (nth a i) (nth b i)) (by simp [fV]) ?_
    simp
    refine goTest_dec (fun h1 => ?_) (fun h1 => ?_)
    · simp [h1]
      exact ⟨by omega, .mk (i + 1) ⟨by omega, nth_all hp h1⟩ (by omega) (Weak.of [] [] (by simp [fsl]))⟩
    · simp [h1]
      exact Ends.mk [] [] (by simp [show a ≠ b from fun e => h1 (by rw [e])])
  · obtain rfl : i = a.length := by omega
    simp [hl]
    exact Ends.mk [] [] (by simp [nth_ext hl hp])

theorem sameFound_ok (a b : List (Int × Int)) (ha : a.length ≤ 1000000000000) : Fn Try.prog fn_laws_sameFound [fsl a, fsl b] [] (.bool (decide (a = b))) [] := by
  refine Fn.of_go ln_laws_sameFound rfl ?_
  simp [ac_laws_sameFound, fsl]
  refine goTest_dec (fun hl => ?_) (fun hl => ?_)
  rotate_left
  · simp [hl]
    exact Ends.mk [] [] (by simp [show a ≠ b from fun e => hl (by rw [e])])
  simp [hl]
  refine go_loop (fun i => { env := [(0, fsl a), (1, fsl b), (5, .int .i64 (i : Nat))], loc := [], box := [], stat := [] }) (fun i => i ≤ a.length ∧ ∀ k, k < i → nth a k = nth b k) (fun i => a.length - i) 0 ⟨by omega, fun k hk => by omega⟩ (Weak.of [] [] (by simp [fsl])) ?_
  rintro i ⟨hi, hp⟩
  simp [fsl, hl]
  refine goTest_dec (fun hlt => ?_) (fun hge => ?_)
  · have hlt1 : i < a.length := by omega
    have hlt2 : i < b.length := by omega
    simp [hlt, hlt1, hlt2, fV]
    by_cases h1 : nth a i = nth b i
    · simp [h1]
      exact ⟨by omega, .mk (i + 1) ⟨by omega, nth_all hp h1⟩ (by omega) (Weak.of [] [] (by simp [fsl]))⟩
    · refine goTest_bool (fun h2 => ?_) (fun h2 => ?_)
      · simp [h2]
        exact Ends.mk [] [] (by simp [show a ≠ b from fun e => h1 (by rw [e])])
      · exact absurd (by simpa [Prod.ext_iff] using h2) h1
  · obtain rfl : i = a.length := by omega
    simp [hl]
    exact Ends.mk [] [] (by simp [nth_ext hl hp])

theorem lines_ok (s : List UInt8) (hs : s.length ≤ 1000000000000) : Fn Try.prog fn_laws_lines [.str s] [] (.int .i64 (s.count 10 : Nat)) [] := by
  refine Fn.of_go ln_laws_lines rfl ?_
  simp [ac_laws_lines]
  refine go_loop (fun i => { env := [(0, .str s), (3, .int .i64 ((s.take i).count 10 : Nat)), (4, .int .i64 (i : Nat))], loc := [], box := [], stat := [] }) (fun i => i ≤ s.length) (fun i => s.length - i) 0 (by omega) (Weak.of [] [] (by simp)) ?_
  intro i hi
  simp
  refine goTest_dec (fun hlt => ?_) (fun hge => ?_)
  · have hn := idx_nth hlt
    have hc : (s.take i).count 10 ≤ i := Nat.le_trans List.count_le_length (by simp; omega)
    have hsn := take_nth hlt
    simp [hlt, hn]
    refine goTest_dec (fun h1 => ?_) (fun h1 => ?_)
    · have h2 : nth s i = 10 := UInt8.toNat_inj.1 h1
      simp [h1]
      exact ⟨by omega, by omega, .mk (i + 1) hlt (by omega) (Weak.of [] [] (by simp [hsn, h2]))⟩
    · have h2 : nth s i ≠ 10 := fun e => h1 (by rw [e]; rfl)
      simp [h1]
      exact ⟨by omega, .mk (i + 1) hlt (by omega) (Weak.of [] [] (by simp [hsn, List.count_append, List.count_cons, h2]))⟩
  · obtain rfl : i = s.length := by omega
    simp
    exact Ends.mk [] [] (by simp)

theorem ftext_len (l : List (Int × Int)) : (ftext l).length ≤ 42 * l.length := by
  unfold ftext
  split
  · exact textF_len fun f hf => by have := fOk_range (fsOk_all ‹_› f hf); omega
  · simp

/-- A text that is not long. -/
inductive TextR (n : Nat) : V → List (List V) → Prop
  | mk (t : List UInt8) (h : t.length ≤ n) : TextR n (.str t) []

theorem DrawFindingsParse_ok' (code : List UInt8) : ∃ R bo, TextR 500 R bo ∧ Fn Try.prog fn_spec_DrawFindingsParse [bsl code] [] R bo := by
  refine Fx.of_go ln_spec_DrawFindingsParse rfl ?_
  obtain ⟨src, ho⟩ : ∃ s, Fn Try.prog fn_spec_l6Open [bsl code] [] (.ptr 1000 0) [[bsl s, .int .i64 0]] := ⟨_, open_ok code⟩
  simp [ac_spec_DrawFindingsParse]
  refine goCall_gen [] [] [] [] (some 1000) ho (by simp [bsl]) ?_
  simp [bsl]
  obtain ⟨_, _, ⟨l, b, hl, hb⟩, f1⟩ := found_ok src 0 (by omega)
  refine goCall_gen [] [(1000, 6)] [] [] none f1 (by simp [bsl]) ?_
  simp [bsl]
  have hfl := ftext_len l
  refine goCall_gen [] [] [] [128] none (spec_FindingsText_ok l (by omega)) (by simp [fsl]) ?_
  simp
  refine goPick (a := b) (n := 6) rfl (by omega) (by omega) fun r1 h1 => ?_
  simp
  refine goTest_dec (fun h2 => ?_) (fun h2 => ?_)
  · have hall : ∀ x ∈ ([[49, 32, 50], [48, 49, 32, 50, 10], [53, 57, 32, 49, 48, 53, 10], [54, 48, 32, 49, 10], [53, 10], [10], [49, 32, 32, 50, 10], [57, 32, 49, 32, 49, 10]] : List (List UInt8)), x.length ≤ 10 := by decide
    obtain ⟨t, ht, f2⟩ := of_ok src (b + 1) [[49, 32, 50], [48, 49, 32, 50, 10], [53, 57, 32, 49, 48, 53, 10], [54, 48, 32, 49, 10], [53, 10], [10], [49, 32, 32, 50, 10], [57, 32, 49, 32, 49, 10]] (by omega) (by simp) (by simp)
    have htl := hall t ht
    simp [h2]
    refine goCall_gen [] [(1000, 6)] [256] [] none f2 (by simp [bsl, ssl]) ?_
    simp
    exact ⟨by omega, _, _, .mk (ftext l ++ t) (by simp; omega), Ends.mk [] [] (by simp)⟩
  simp [h2]
  refine goTest_dec (fun h3 => ?_) (fun h3 => ?_)
  · simp [h3]
    obtain ⟨_, _, ⟨t, c, ht, hc⟩, f2⟩ := spoil_ok src (b + 1) (ftext l) (by omega) (by omega)
    refine goCall_gen [] [(1000, 6)] [] [] none f2 (by simp [bsl]) ?_
    simp
    exact ⟨_, _, .mk t (by omega), Ends.mk [] [] (by simp)⟩
  · simp [h3]
    exact ⟨_, _, .mk (ftext l) (by omega), Ends.mk [] [] (by simp)⟩

theorem DrawFindingsParse_ok (code : List UInt8) : ∃ t : List UInt8, t.length ≤ 500 ∧ Fn Try.prog fn_spec_DrawFindingsParse [bsl code] [] (.str t) [] := by
  obtain ⟨_, _, ⟨t, h⟩, f⟩ := DrawFindingsParse_ok' code
  exact ⟨t, h, f⟩

end Go.Proofs.Ytpiafiapjmldgaa
