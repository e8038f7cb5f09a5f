/-
  Texts of findings, as lists: written twice, cut, and with a space ahead.
-/
import Derived.Test.YtpiafiapjmldgaaB8
namespace Go.Proofs.Ytpiafiapjmldgaa
set_option linter.all false

theorem gl_append {p : List UInt8} {l m : List (List UInt8)} (h : l ≠ []) : gl p (l ++ m) = gl p l ++ m := by
  cases l with
  | nil => exact absurd rfl h
  | cons y t => simp [gl]

theorem cutAll_mid (c : UInt8) (b : List UInt8) : ∀ a : List UInt8, cutAll c (a ++ c :: b) = cutAll c a ++ cutAll c b
  | [] => by simp [cutAll]
  | x :: r => by
    have ih := cutAll_mid c b r
    simp only [List.cons_append, cutAll, ih]
    split
    · simp
    · rw [gl_append (cutAll_ne c r)]

theorem cutAll_last (c : UInt8) : ∀ s : List UInt8, s ≠ [] → (cutAll c s).getLast? = some [] → ∃ a, s = a ++ [c]
  | [], h, _ => absurd rfl h
  | x :: r, _, h => by
    by_cases hr : r = []
    · subst hr
      by_cases hx : x = c
      · exact ⟨[], by simp [hx]⟩
      · simp [cutAll, hx, gl] at h
    · have ih := cutAll_last c r hr
      have key : (cutAll c r).getLast? = some [] := by
        simp only [cutAll] at h
        split at h
        · rwa [List.getLast?_cons_of_ne_nil (cutAll_ne c r)] at h
        · cases hc : cutAll c r with
          | nil => exact absurd hc (cutAll_ne c r)
          | cons y t =>
            rw [hc] at h
            cases t with
            | nil => simp [gl] at h
            | cons z u => simpa [gl] using h
      obtain ⟨a, rfl⟩ := ih key
      exact ⟨x :: a, by simp⟩

theorem cutAll_count (c : UInt8) : ∀ s : List UInt8, (cutAll c s).length = s.count c + 1
  | [] => by simp [cutAll]
  | x :: r => by
    have ih := cutAll_count c r
    simp only [cutAll, List.count_cons]
    split
    · simp [*]
    · have hl : (gl [x] (cutAll c r)).length = (cutAll c r).length := by
        cases hc : cutAll c r with
        | nil => exact absurd hc (cutAll_ne c r)
        | cons y t => simp [gl]
      simp [*]

theorem parseF_iff {text : List UInt8} {fs : List (Int × Int)} : parseF text = some fs ↔ ∃ dl, cutAll 10 text = dl ++ [[]] ∧ mapO lineF dl = some fs ∧ fsOk 60 fs = true := by
  unfold parseF
  constructor
  · intro h
    split at h
    · rename_i gs hg
      split at h
      · rename_i hc
        obtain rfl := Option.some.inj h
        refine ⟨(cutAll 10 text).dropLast, ?_, hg, hc.2⟩
        have h1 := List.dropLast_concat_getLast (cutAll_ne 10 text)
        have h2 := List.getLast?_eq_some_getLast (cutAll_ne 10 text)
        rw [hc.1] at h2
        rw [← Option.some.inj h2] at h1
        exact h1.symm
      · cases h
    · cases h
  · rintro ⟨dl, h1, h2, h3⟩
    simp [h1, h2, h3]

/-- What a text of findings looks like, if it is not empty. -/
theorem parseF_form {text : List UInt8} {fs : List (Int × Int)} (h : parseF text = some fs) (hne : text ≠ []) : ∃ a, text = a ++ [10] ∧ mapO lineF (cutAll 10 a) = some fs ∧ fsOk 60 fs = true := by
  obtain ⟨dl, h1, h2, h3⟩ := parseF_iff.1 h
  obtain ⟨a, rfl⟩ := cutAll_last 10 text hne (by rw [h1]; simp)
  have h4 := cutAll_mid 10 [] a
  rw [h1] at h4
  have h5 : dl = cutAll 10 a := by simpa [cutAll] using h4
  exact ⟨a, rfl, h5 ▸ h2, h3⟩

theorem mapO_append {α β : Type} {f : α → Option β} : ∀ {a b : List α} {x y : List β}, mapO f a = some x → mapO f b = some y → mapO f (a ++ b) = some (x ++ y)
  | [], b, x, y, h1, h2 => by simp [mapO] at h1; subst h1; simpa using h2
  | z :: r, b, x, y, h1, h2 => by
    simp only [mapO] at h1
    split at h1
    · rename_i u v e1 e2
      obtain rfl := Option.some.inj h1
      simp [mapO, e1, mapO_append e2 h2]
    · cases h1

theorem fLess_trans {a b c : Int × Int} (h1 : fLess a b = true) (h2 : fLess b c = true) : fLess a c = true := by
  simp [fLess] at *; omega
theorem fLess_irrefl {a : Int × Int} : fLess a a = false := by simp [fLess]

theorem fsOk_less {n : Int} {l : List (Int × Int)} (h : fsOk n l = true) : ∀ i, i + 1 < l.length → fLess (nth l i) (nth l (i + 1)) = true := fun i hi => by
  have := allTo_iff.1 h (i + 1) hi
  simp [fsP] at this
  exact this.2

theorem fsOk_first {n : Int} {l : List (Int × Int)} (h : fsOk n l = true) : ∀ i, 0 < i → i < l.length → fLess (nth l 0) (nth l i) = true
  | 0, h1, _ => absurd h1 (by omega)
  | 1, _, h2 => fsOk_less h 0 h2
  | i + 2, _, h2 => fLess_trans (fsOk_first h (i + 1) (by omega) (by omega)) (fsOk_less h (i + 1) h2)

theorem nth_append_left {α : Type} [Inhabited α] {a b : List α} {i : Nat} (h : i < a.length) : nth (a ++ b) i = nth a i := by
  rw [nth_eq (by simp; omega), nth_eq h, List.getElem_append_left h]
theorem nth_append_right {α : Type} [Inhabited α] {a b : List α} {i : Nat} (h : i < b.length) : nth (a ++ b) (a.length + i) = nth b i := by
  rw [nth_eq (by simp; omega), nth_eq h, List.getElem_append_right (by omega)]; simp

/-- A text of findings, written twice, is none. -/
theorem parseF_twice {text : List UInt8} {fs : List (Int × Int)} (h : parseF text = some fs) (hne : text ≠ []) : parseF (text ++ text) = none := by
  obtain ⟨a, rfl, h2, h3⟩ := parseF_form h hne
  have e : cutAll 10 ((a ++ [10]) ++ (a ++ [10])) = (cutAll 10 a ++ cutAll 10 a) ++ [[]] := by
    rw [show (a ++ [10]) ++ (a ++ [10]) = (a ++ 10 :: a) ++ 10 :: [] by simp, cutAll_mid, cutAll_mid]
    simp [cutAll]
  cases hp : parseF ((a ++ [10]) ++ (a ++ [10])) with
  | none => rfl
  | some gs =>
    exfalso
    obtain ⟨dl, h4, h5, h6⟩ := parseF_iff.1 hp
    rw [e] at h4
    have h7 : cutAll 10 a ++ cutAll 10 a = dl := (List.append_inj' h4 rfl).1
    rw [← h7, mapO_append h2 h2] at h5
    obtain rfl := Option.some.inj h5
    have hl : 0 < fs.length := by rw [mapO_len h2]; exact List.length_pos_iff.2 (cutAll_ne 10 a)
    have h8 := fsOk_first h6 fs.length hl (by simp; omega)
    have e1 : nth (fs ++ fs) fs.length = nth fs 0 := nth_append_right (a := fs) (i := 0) hl
    rw [e1, nth_append_left hl, fLess_irrefl] at h8
    cases h8

/-- Without its last byte it is none. -/
theorem parseF_cut {text : List UInt8} {fs : List (Int × Int)} (h : parseF text = some fs) (hne : text ≠ []) : parseF (text.take (text.length - 1)) = none := by
  obtain ⟨a, rfl, h2, h3⟩ := parseF_form h hne
  have e : (a ++ [10]).take ((a ++ [10]).length - 1) = a := by simp
  rw [e]
  cases hp : parseF a with
  | none => rfl
  | some gs =>
    exfalso
    obtain ⟨dl, h4, h5, h6⟩ := parseF_iff.1 hp
    have hm : ([] : List UInt8) ∈ cutAll 10 a := by rw [h4]; simp
    rw [mapO_none (x := []) (by simp [lineF, cutAll]) hm] at h2
    cases h2

/-- With a space ahead it is none. -/
theorem parseF_space {text : List UInt8} {fs : List (Int × Int)} (h : parseF text = some fs) (hne : text ≠ []) : parseF (32 :: text) = none := by
  obtain ⟨a, rfl, h2, h3⟩ := parseF_form h hne
  cases hc : cutAll 10 a with
  | nil => exact absurd hc (cutAll_ne 10 a)
  | cons y t =>
    have e : cutAll 10 (32 :: (a ++ [10])) = (32 :: y) :: t ++ [[]] := by
      rw [cutAll, if_neg (by decide), show a ++ [10] = a ++ 10 :: [] from rfl, cutAll_mid, hc]
      simp [gl, cutAll]
    rw [hc] at h2
    have hy : ∃ f, lineF y = some f := by
      cases hy : lineF y with
      | none => rw [mapO_none hy List.mem_cons_self] at h2; cases h2
      | some f => exact ⟨f, rfl⟩
    obtain ⟨f, hy⟩ := hy
    obtain ⟨u, v, h4, _⟩ := lineF_two.1 hy
    have hb : lineF (32 :: y) = none := by simp [lineF, cutAll, h4]
    cases hp : parseF (32 :: (a ++ [10])) with
    | none => rfl
    | some gs =>
      exfalso
      obtain ⟨dl, h5, h6, h7⟩ := parseF_iff.1 hp
      rw [e] at h5
      have h8 : (32 :: y) :: t = dl := (List.append_inj' h5 rfl).1
      rw [← h8, mapO_none hb List.mem_cons_self] at h6
      cases h6

theorem parseF_count {text : List UInt8} {fs : List (Int × Int)} (h : parseF text = some fs) : text.count 10 = fs.length := by
  obtain ⟨dl, h1, h2, h3⟩ := parseF_iff.1 h
  have h4 := cutAll_count 10 text
  rw [h1] at h4
  rw [mapO_len h2]
  simp at h4
  omega
end Go.Proofs.Ytpiafiapjmldgaa
