/-
  The program's FindingsParse.
-/
import Derived.Test.YtpiafiapjmldgaaB3
namespace Go.Proofs.Ytpiafiapjmldgaa
set_option linter.all false
set_option maxRecDepth 20000
attribute [-simp] List.getD_eq_getElem?_getD

theorem Cut1_ok (s : List UInt8) (c : UInt8) (hs : s.length < 4294967281) : Fn Try.prog fn_strings_Cut [.str s, .str [c]] [] (.tup [.str (cut1 c s).1, .str (cut1 c s).2.1, .bool (cut1 c s).2.2]) [] := by
  have := Cut_ok s [c] hs
  rw [Lib_cut] at this
  exact this

theorem cutAll_notin {c : UInt8} : ∀ {s : List UInt8}, c ∉ s → cutAll c s = [s]
  | [], _ => rfl
  | x :: r, h => by
    simp at h
    simp [cutAll, Ne.symm h.1, cutAll_notin h.2, gl]

theorem small_notin {s : List UInt8} (h : smallOk s = true) : (32 : UInt8) ∉ s := fun hm => by
  simp only [smallOk, Bool.and_eq_true, List.all_eq_true] at h
  have := h.2 _ hm
  simp [dig] at this

theorem parse_bad {text line : List UInt8} {ls : List (List UInt8)} (hls : cutAll 10 text = ls) (hm : line ∈ ls.dropLast) (hb : ∀ f, lineF line = some f → f.1 < 0 ∨ f.2 < 0) : parseF text = none := by
  unfold parseF
  rw [hls]
  cases h : lineF line with
  | none => rw [mapO_none h hm]
  | some f =>
    cases h2 : mapO lineF ls.dropLast with
    | none => rfl
    | some fs =>
      have := fsOk_mem (n := 60) (mapO_mem h h2 hm) (fOk_neg (hb f h))
      simp [this]

theorem dropLast_mid {α : Type} {a : List α} {x : α} {b : List α} (h : b ≠ []) : x ∈ (a ++ x :: b).dropLast := by
  rw [List.dropLast_append_of_ne_nil (by simp)]
  cases b with
  | nil => exact absurd rfl h
  | cons y t => simp

theorem impl_FindingsParse_ok (text : List UInt8) (hs : text.length ≤ 4294967000) : Fn Try.prog fn_impl_FindingsParse [.str text] [] (parseV false text) [] := by
  refine Fn.of_go ln_impl_FindingsParse rfl ?_
  simp [ac_impl_FindingsParse]
  refine go_loop (fun (x : List UInt8 × List (Int × Int)) => { env := [(4, .sl (some 0) 2 (x.2.map fV)), (5, .str x.1)], loc := [], box := [], stat := [(0, some (.own x.2.length 2))] })
    (fun x => x.2.length + x.1.length ≤ text.length ∧ ∃ dl, cutAll 10 text = dl ++ cutAll 10 x.1 ∧ mapO lineF dl = some x.2) (fun x => x.1.length) (text, []) ⟨by simp, [], rfl, rfl⟩ (Weak.of [(0, some 256, 0, 2)] [] (by simp)) ?_
  rintro ⟨rest, fs⟩ ⟨h1, dl, h2, h3⟩
  simp only at h1 h2 h3
  simp
  refine goTest_dec (fun h4 => ?_) (fun h4 => ?_)
  · subst h4
    have hpv : parseF text = if fsOk 60 fs = true then some fs else none := by
      simp [parseF, h2, cutAll, h3]
    simp
    refine goCall_gen [] [] [] [0] none (foundOk_ok fs 60 (by simp at h1; omega)) (by simp [fsl]) ?_
    simp
    refine goTest_bool (fun h5 => ?_) (fun h5 => ?_)
    · simp [h5]
      exact Ends.mk [(0, some 0, fs.length, 2)] [] (by simp [parseV, hpv, h5])
    · simp [h5]
      exact Ends.mk [] [] (by simp [parseV, hpv, h5])
  · simp [h4]
    refine goCall_eq (Cut1_ok rest 10 (by omega)) (by simp) ?_
    have c1 := cut1_parts 10 rest
    have c2 := cut1_none 10 rest
    have c3 := cut1_all 10 rest
    generalize cut1 10 rest = t at c1 c2 c3 ⊢
    obtain ⟨line, more, ok⟩ := t
    simp only at c1 c2 c3
    have hlen : line.length ≤ rest.length := by
      cases ok with
      | false => rw [(c2 rfl).1]; exact Nat.le_refl _
      | true => have := congrArg List.length (c1 rfl); simp at this; omega
    simp
    refine goCall_eq (Cut1_ok line 32 (by omega)) (by simp) ?_
    have d2 := cut1_none 32 line
    have d3 := cut1_all 32 line
    generalize cut1 32 line = t at d2 d3 ⊢
    obtain ⟨a, b, two⟩ := t
    simp only at d2 d3
    simp
    refine goCall_eq (smallNumber_ok a) (by simp) ?_
    simp
    refine goCall_eq (smallNumber_ok b) (by simp) ?_
    simp
    cases ok with
    | false =>
      have e : parseF text = none := by
        obtain ⟨_, _, e1, _⟩ := c2 rfl
        unfold parseF
        rw [h2, e1]
        cases mapO lineF (dl ++ [rest]).dropLast with
        | none => rfl
        | some fs => simp [h4]
      simp
      exact Ends.mk [] [] (by simp [parseV, e])
    | true =>
      have e1 := c3 rfl
      have e2 := c1 rfl
      have e3 := congrArg List.length e2
      simp at e3
      have hm : line ∈ (cutAll 10 text).dropLast := by rw [h2, e1]; exact dropLast_mid (cutAll_ne _ _)
      simp
      cases two with
      | false =>
        have e : parseF text = none := parse_bad rfl hm fun f hf => by
          obtain ⟨_, _, e4, _⟩ := d2 rfl
          simp [lineF, e4] at hf
        simp
        exact Ends.mk [] [] (by simp [parseV, e])
      | true =>
        have e4 := d3 rfl
        have hline : ∀ f, lineF line = some f → f = (numS a, numS b) := fun f hf => by
          obtain ⟨a', b', q1, rfl⟩ := lineF_two.1 hf
          rw [e4] at q1
          simp at q1
          obtain ⟨rfl, q1⟩ := q1
          have hb : 32 ∉ b := fun hb => by
            cases hc : (cut1 32 b).2.2 with
            | false => exact (cut1_none 32 b hc).2.2.2 hb
            | true =>
              have := cut1_all 32 b hc
              rw [this] at q1
              simp at q1
              exact cutAll_ne _ _ q1.2
          rw [cutAll_notin hb] at q1
          simp at q1
          rw [q1]
        simp
        refine goTest_bool (fun h5 => ?_) (fun h5 => ?_)
        · simp [h5]
          refine goTest_bool (fun h6 => ?_) (fun h6 => ?_)
          · have e5 : cutAll 32 line = [a, b] := by rw [e4, cutAll_notin (small_notin h6)]
            have e6 : lineF line = some ((decN a : Int), (decN b : Int)) := by simp [lineF, e5, numS, h5, h6]
            have e7 := mapO_snoc e6 h3
            simp [h6]
            refine ⟨by simp [roomOk]; omega, .mk (more, fs ++ [((decN a : Int), (decN b : Int))]) ⟨by simp; omega, dl ++ [line], by rw [h2, e1]; simp, e7⟩ (by simp; omega) (Weak.of [(0, some 0, fs.length + 1, 2)] [] (by simp [fV]))⟩
          · have e : parseF text = none := parse_bad rfl hm fun f hf => by rw [hline f hf]; simp [numS, h6]
            simp [h6]
            exact Ends.mk [] [] (by simp [parseV, e])
        · have e : parseF text = none := parse_bad rfl hm fun f hf => by rw [hline f hf]; simp [numS, h5]
          simp [h5]
          exact Ends.mk [] [] (by simp [parseV, e])
end Go.Proofs.Ytpiafiapjmldgaa
