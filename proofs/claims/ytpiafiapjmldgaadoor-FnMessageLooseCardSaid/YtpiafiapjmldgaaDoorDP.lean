/-
  Texts of findings, as lists: what is written can be read, and what is read is what is written.
-/
import Derived.Test.YtpiafiapjmldgaaDoorB9
namespace Go.Proofs.YtpiafiapjmldgaaDoor
set_option linter.all false

theorem decS1 {n : Nat} (h : n < 10) : decS n = [UInt8.ofNat (48 + n)] := by rw [decS, if_pos h]
theorem decS2 {n : Nat} (h : 10 ≤ n) (h2 : n < 100) : decS n = [UInt8.ofNat (48 + n / 10), UInt8.ofNat (48 + n % 10)] := by
  rw [decS, if_neg (by omega), decS1 (by omega)]; rfl
theorem decS3 {n : Nat} (h : 100 ≤ n) (h2 : n < 1000) : decS n = [UInt8.ofNat (48 + n / 100), UInt8.ofNat (48 + n / 10 % 10), UInt8.ofNat (48 + n % 10)] := by
  rw [decS, if_neg (by omega), decS2 (by omega) (by omega), Nat.div_div_eq_div_mul]; rfl

theorem u8n {k : Nat} (h : k < 10) : (UInt8.ofNat (48 + k)).toNat = 48 + k := UInt8.toNat_ofNat_of_lt' (by simp [UInt8.size]; omega)

theorem dec_small {n : Nat} (h : n < 1000) : smallOk (decS n) = true ∧ decN (decS n) = n := by
  rcases Nat.lt_or_ge n 10 with h1 | h1
  · rw [decS1 h1]
    have e := u8n h1
    simp [smallOk, dig, decN, e]; omega
  rcases Nat.lt_or_ge n 100 with h2 | h2
  · rw [decS2 h1 h2]
    have e := u8n (k := n / 10) (by omega)
    have e2 := u8n (k := n % 10) (by omega)
    simp [smallOk, dig, decN, e, e2]; omega
  · rw [decS3 h2 h]
    have e := u8n (k := n / 100) (by omega)
    have e2 := u8n (k := n / 10 % 10) (by omega)
    have e3 := u8n (k := n % 10) (by omega)
    simp [smallOk, dig, decN, e, e2, e3]; omega

theorem u8b {c : UInt8} {k : Nat} (h : c.toNat = 48 + k) : UInt8.ofNat (48 + k) = c := by
  rw [← h]; exact UInt8.ofNat_toNat

theorem small_dec {s : List UInt8} (h : smallOk s = true) : decS (decN s) = s := by
  match s, h with
  | [], h => simp [smallOk] at h
  | [a], h =>
    simp [smallOk, dig] at h
    have e : decN [a] = a.toNat - 48 := by simp [decN]
    rw [e, decS1 (by omega), u8b (c := a) (by omega)]
  | [a, b], h =>
    simp [smallOk, dig] at h
    have e : decN [a, b] = 10 * (a.toNat - 48) + (b.toNat - 48) := by simp [decN]
    rw [e, decS2 (by omega) (by omega), u8b (c := a) (by omega), u8b (c := b) (by omega)]
  | [a, b, c], h =>
    simp [smallOk, dig] at h
    have e : decN [a, b, c] = 10 * (10 * (a.toNat - 48) + (b.toNat - 48)) + (c.toNat - 48) := by simp [decN]
    rw [e, decS3 (by omega) (by omega), u8b (c := a) (by omega), u8b (c := b) (by omega), u8b (c := c) (by omega)]
  | a :: b :: c :: d :: r, h => simp [smallOk] at h

theorem small_no {s : List UInt8} {c : UInt8} (h : smallOk s = true) (hc : dig c = false) : c ∉ s := fun hm => by
  simp only [smallOk, Bool.and_eq_true, List.all_eq_true] at h
  have := h.2 _ hm
  rw [hc] at this; cases this

theorem uncut (c : UInt8) : ∀ (t : List UInt8) (dl : List (List UInt8)) (last : List UInt8), cutAll c t = dl ++ [last] → t = dl.flatMap (fun s => s ++ [c]) ++ last
  | [], dl, last, h => by
    cases dl with
    | nil => simp [cutAll] at h; simp [h]
    | cons y r => simp [cutAll] at h
  | x :: r, dl, last, h => by
    simp only [cutAll] at h
    split at h
    · rename_i e
      cases dl with
      | nil => simp [cutAll_ne] at h
      | cons y d =>
        simp at h
        have ih := uncut c r d last h.2
        obtain rfl := h.1
        subst e
        simpa using ih
    · cases hc : cutAll c r with
      | nil => exact absurd hc (cutAll_ne c r)
      | cons y tl =>
        rw [hc] at h
        simp only [gl] at h
        cases dl with
        | nil =>
          simp at h
          have ih := uncut c r [] y (by rw [hc, h.2]; rfl)
          simp at ih
          simp [ih, ← h.1]
        | cons z d =>
          simp at h
          have ih := uncut c r (y :: d) last (by rw [hc, h.2]; rfl)
          rw [← h.1]
          simp at ih
          simp [ih]

def lineU (f : Int × Int) : List UInt8 := decS f.1.toNat ++ 32 :: decS f.2.toNat

theorem lineT_eq (f : Int × Int) : lineT f = lineU f ++ [10] := by simp [lineT, lineU]

theorem lineF_of {s : List UInt8} {f : Int × Int} (h : lineF s = some f) (hf : 0 ≤ f.1 ∧ 0 ≤ f.2) : s = lineU f := by
  obtain ⟨a, b, h1, rfl⟩ := lineF_two.1 h
  have h2 := uncut 32 s [a] b h1
  simp only [numS] at hf
  obtain ⟨p1, p2⟩ := hf
  split at p1
  · split at p2
    · rename_i q1 q2
      simp [lineU, numS, q1, q2, small_dec q1, small_dec q2]
      simpa using h2
    · omega
  · omega

theorem lineF_lineU {f : Int × Int} (h1 : 0 ≤ f.1 ∧ f.1 < 1000) (h2 : 0 ≤ f.2 ∧ f.2 < 1000) : lineF (lineU f) = some f ∧ (10 : UInt8) ∉ lineU f := by
  obtain ⟨a1, a2⟩ := dec_small (n := f.1.toNat) (by omega)
  obtain ⟨b1, b2⟩ := dec_small (n := f.2.toNat) (by omega)
  have e : cutAll 32 (lineU f) = [decS f.1.toNat, decS f.2.toNat] := by
    unfold lineU
    rw [cutAll_mid, cutAll_notin (small_no a1 (by decide)), cutAll_notin (small_no b1 (by decide))]
    rfl
  refine ⟨lineF_two.2 ⟨_, _, e, ?_⟩, ?_⟩
  · simp only [numS, a1, b1, a2, b2, if_true]
    exact Prod.ext (by simp; omega) (by simp; omega)
  · have q1 := small_no (c := 10) a1 (by decide)
    have q2 := small_no (c := 10) b1 (by decide)
    simp [lineU, q1, q2]

theorem cut_textF : ∀ {l : List (Int × Int)}, (∀ f ∈ l, (0 ≤ f.1 ∧ f.1 < 1000) ∧ 0 ≤ f.2 ∧ f.2 < 1000) → cutAll 10 (textF l) = l.map lineU ++ [[]] ∧ mapO lineF (l.map lineU) = some l
  | [], _ => ⟨by simp [textF, cutAll], rfl⟩
  | f :: r, h => by
    obtain ⟨i1, i2⟩ := cut_textF (l := r) fun g hg => h g (List.mem_cons_of_mem _ hg)
    obtain ⟨p1, p2⟩ := h f List.mem_cons_self
    obtain ⟨q1, q2⟩ := lineF_lineU p1 p2
    constructor
    · have e : textF (f :: r) = lineU f ++ 10 :: textF r := by simp [textF, lineT_eq]
      rw [e, cutAll_mid, cutAll_notin q2, i1]
      simp
    · simp [mapO, q1, i2]

theorem parse_textF {l : List (Int × Int)} (h : fsOk 60 l = true) : parseF (textF l) = some l := by
  obtain ⟨h1, h2⟩ := cut_textF (l := l) fun f hf => by have := fOk_range (fsOk_all h f hf); omega
  exact parseF_iff.2 ⟨_, h1, h2, h⟩

theorem mapO_lines : ∀ {dl : List (List UInt8)} {fs : List (Int × Int)}, mapO lineF dl = some fs → (∀ f ∈ fs, 0 ≤ f.1 ∧ 0 ≤ f.2) → dl.flatMap (fun s => s ++ [10]) = textF fs
  | [], fs, h, _ => by simp [mapO] at h; subst h; rfl
  | s :: r, fs, h, hf => by
    simp only [mapO] at h
    split at h
    · rename_i y l e1 e2
      obtain rfl := Option.some.inj h
      have ih := mapO_lines e2 fun f hm => hf f (List.mem_cons_of_mem _ hm)
      have e3 := lineF_of e1 (hf y List.mem_cons_self)
      simp [textF, lineT_eq, e3] at ih ⊢
      exact ih
    · cases h

/-- What was read is what is written. -/
theorem text_parse {t : List UInt8} {fs : List (Int × Int)} (h : parseF t = some fs) : ftext fs = t := by
  obtain ⟨dl, h1, h2, h3⟩ := parseF_iff.1 h
  have h4 := uncut 10 t dl [] h1
  have h5 := mapO_lines h2 fun f hf => by have := fOk_range (fsOk_all h3 f hf); omega
  unfold ftext
  rw [if_pos h3, ← h5, h4]
  simp

theorem textF_ne {l : List (Int × Int)} (h : l ≠ []) : textF l ≠ [] := by
  cases l with
  | nil => exact absurd rfl h
  | cons f r => simp [textF, lineT]
end Go.Proofs.YtpiafiapjmldgaaDoor
