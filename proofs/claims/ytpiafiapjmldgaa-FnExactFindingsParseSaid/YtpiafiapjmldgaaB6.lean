/-
  Numbers and findings as texts, by the reference.
-/
import Derived.Test.YtpiafiapjmldgaaB5
namespace Go.Proofs.Ytpiafiapjmldgaa
set_option linter.all false
set_option maxRecDepth 20000
attribute [-simp] List.getD_eq_getElem?_getD

/-- A number in decimal digits. -/
def decS (n : Nat) : List UInt8 :=
  if n < 10 then [UInt8.ofNat (48 + n)] else decS (n / 10) ++ [UInt8.ofNat (48 + n % 10)]
termination_by n

theorem decS_len : ∀ (k n : Nat), n < 10 ^ k → (decS n).length ≤ k + 1
  | 0, n, h => by
    have : n = 0 := by simpa using h
    subst this
    unfold decS; simp
  | k + 1, n, h => by
    unfold decS
    split
    · simp
    · have := decS_len k (n / 10) (by rw [Nat.div_lt_iff_lt_mul (by omega), ← Nat.pow_succ]; exact h)
      simp; omega

theorem decPos_ok (n : Nat) (h : n < 10 ^ 19) (h2 : n < 9223372036854775808) : Fn Try.prog fn_spec_l6Dec [.int .i64 n] [] (.str (decS n)) [] := by
  induction n using Nat.strongRecOn with
  | _ n ih =>
    refine Fn.of_go ln_spec_l6Dec rfl ?_
    have e1 : ¬ (n : Int) < -9223372036854775807 := by omega
    have e2 : ¬ (n : Int) < 0 := by omega
    by_cases h3 : n < 10
    · have e3 : (n : Int) < 10 := by omega
      have e4 : decS n = [UInt8.ofNat (48 + n)] := by unfold decS; rw [if_pos h3]
      have e5 : IntKind.u8.wrap (48 + (n : Int)) = 48 + n := wrap_byte (by omega) (by omega)
      have e6 : (48 + (n : Int)).toNat = 48 + n := by omega
      simp [ac_spec_l6Dec, e1, e2, e3, e5, e6, e4]
      exact ⟨by omega, .mk [] [] (by simp)⟩
    · have e3 : ¬ (n : Int) < 10 := by omega
      have e4 : decS n = decS (n / 10) ++ [UInt8.ofNat (48 + n % 10)] := by rw [decS]; rw [if_neg h3]
      have e5 : IntKind.u8.wrap (48 + (n : Int) % 10) = 48 + (n : Int) % 10 := wrap_byte (by omega) (by omega)
      have e6 : (48 + (n : Int) % 10).toNat = 48 + n % 10 := by omega
      have ht : (n : Int).tmod 10 = (n : Int) % 10 := Int.tmod_eq_emod_of_nonneg (by omega)
      have hl := decS_len 18 (n / 10) (by omega)
      simp [ac_spec_l6Dec, e1, e2, e3]
      refine ⟨by omega, goDCall_eq (ih (n / 10) (by omega) (by omega) (by omega)) (by simp) (by simp) ?_⟩
      simp [e5, e6, e4, ht]
      exact ⟨by omega, by omega, .mk [] [] (by simp)⟩

def lineT (f : Int × Int) : List UInt8 := decS f.1.toNat ++ [32] ++ decS f.2.toNat ++ [10]
/-- The text of findings. -/
def textF (l : List (Int × Int)) : List UInt8 := l.flatMap lineT

theorem decS_len20 {n : Nat} (h : n < 10 ^ 19) : (decS n).length ≤ 20 := decS_len 19 n h

theorem textF_len : ∀ {l : List (Int × Int)}, (∀ f ∈ l, f.1 < 1000000000000 ∧ f.2 < 1000000000000) → (textF l).length ≤ 42 * l.length
  | [], _ => by simp [textF]
  | f :: r, h => by
    have ih := textF_len (l := r) fun g hg => h g (List.mem_cons_of_mem _ hg)
    obtain ⟨h1, h2⟩ := h f List.mem_cons_self
    have a1 := decS_len20 (n := f.1.toNat) (by omega)
    have a2 := decS_len20 (n := f.2.toNat) (by omega)
    simp only [textF, List.flatMap_cons, lineT, List.length_append, List.length_cons, List.length_nil] at ih ⊢
    omega

theorem textF_snoc {l : List (Int × Int)} {i : Nat} (h : i < l.length) : textF (l.take (i + 1)) = textF (l.take i) ++ lineT (nth l i) := by
  rw [take_nth h]; simp [textF]

theorem l42Text_ok (l : List (Int × Int)) (hl : l.length ≤ 1100000) (hb : ∀ f ∈ l, (0 ≤ f.1 ∧ f.1 < 1000000000000) ∧ 0 ≤ f.2 ∧ f.2 < 1000000000000) : Fn Try.prog fn_spec_l42Text [fsl l] [] (.str (textF l)) [] := by
  refine Fn.of_go ln_spec_l42Text rfl ?_
  simp [ac_spec_l42Text, fsl]
  refine go_loop (fun i => { env := [(0, fsl l), (3, .str (textF (l.take i))), (4, .int .i64 (i : Nat))], loc := [], box := [], stat := [] }) (fun i => i ≤ l.length) (fun i => l.length - i) 0 (by omega) (Weak.of [] [] (by simp [fsl, textF])) ?_
  intro i hi
  simp [fsl]
  refine goTest_dec (fun hlt => ?_) (fun hge => ?_)
  · obtain ⟨h1, h2⟩ := hb _ (nth_mem hlt)
    have h3 := textF_len (l := l.take i) fun f hf => ⟨(hb f (List.mem_of_mem_take hf)).1.2, (hb f (List.mem_of_mem_take hf)).2.2⟩
    simp at h3
    have hsn := textF_snoc hlt
    obtain ⟨a, ha⟩ := Int.eq_ofNat_of_zero_le h1.1
    obtain ⟨b, hb'⟩ := Int.eq_ofNat_of_zero_le h2.1
    have a1 := decS_len20 (n := a) (by omega)
    have a2 := decS_len20 (n := b) (by omega)
    simp [hlt, fV]
    rw [ha]
    refine goDCall_eq (decPos_ok a (by omega) (by omega)) (by simp) (by simp) ?_
    simp [hlt, fV]
    rw [hb']
    refine ⟨by omega, by omega, goDCall_eq (decPos_ok b (by omega) (by omega)) (by simp) (by simp) ?_⟩
    simp
    refine ⟨by omega, by omega, by omega, .mk (i + 1) hlt (by omega) (Weak.of [] [] (by simp [hsn, lineT, ha, hb']))⟩
  · obtain rfl : i = l.length := by omega
    simp
    exact Ends.mk [] [] (by simp)

theorem fOk_range {n : Int} {f : Int × Int} (h : fOk n f = true) : (0 ≤ f.1 ∧ f.1 < n) ∧ 0 ≤ f.2 ∧ f.2 < 106 := by
  rw [fOk_eq] at h; simp at h; omega

theorem fsOk_all {n : Int} {l : List (Int × Int)} (h : fsOk n l = true) : ∀ f ∈ l, fOk n f = true := fun f hf => by
  obtain ⟨i, hi, rfl⟩ := List.getElem_of_mem hf
  have := allTo_iff.1 h i hi
  simp only [fsP, Bool.and_eq_true, nth_eq hi] at this
  exact this.1

/-- What FindingsText returns. -/
def ftext (l : List (Int × Int)) : List UInt8 := if fsOk 60 l then textF l else []

theorem spec_FindingsText_ok (l : List (Int × Int)) (hl : l.length ≤ 1100000) : Fn Try.prog fn_spec_FindingsText [fsl l] [] (.str (ftext l)) [] := by
  refine Fn.of_go ln_spec_FindingsText rfl ?_
  simp [ac_spec_FindingsText, fsl]
  refine goCall_eq (l42Valid_ok l (by omega)) (by simp [fsl]) ?_
  simp
  refine goTest_bool (fun h => ?_) (fun h => ?_)
  · simp [h]
    refine goCall_eq (l42Text_ok l hl fun f hf => ?_) (by simp [fsl]) ?_
    · have := fOk_range (fsOk_all h f hf); omega
    simp
    exact Ends.mk [] [] (by simp [ftext, h])
  · simp [h]
    exact Ends.mk [] [] (by simp [ftext, h])
end Go.Proofs.Ytpiafiapjmldgaa
