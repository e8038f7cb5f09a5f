/-
  Reading findings: the program's function and the reference's do the same.
-/
import Derived.Test.YtpiafiapjmldgaaB2
namespace Go.Proofs.Ytpiafiapjmldgaa
set_option linter.all false
set_option maxRecDepth 20000
attribute [-simp] List.getD_eq_getElem?_getD

/-! ## Plain lists -/

def cut1 (c : UInt8) : List UInt8 → List UInt8 × List UInt8 × Bool
  | [] => ([], [], false)
  | x :: r => if x = c then ([], r, true) else (x :: (cut1 c r).1, (cut1 c r).2.1, (cut1 c r).2.2)

theorem index_one (c : UInt8) : ∀ s : List UInt8, Lib.index s [c] = if (cut1 c s).2.2 then ((cut1 c s).1.length : Int) else -1
  | [] => by simp [Lib.index, cut1]
  | x :: r => by
    have ih := index_one c r
    by_cases e : x = c
    · subst e; simp [Lib.index, cut1, List.isPrefixOf]
    · have e2 : ([c].isPrefixOf (x :: r)) = false := by simp [List.isPrefixOf, Ne.symm e]
      have e3 : cut1 c (x :: r) = (x :: (cut1 c r).1, (cut1 c r).2.1, (cut1 c r).2.2) := by simp [cut1, e]
      rw [e3]
      simp only [Lib.index, e2, ih]
      cases h : (cut1 c r).2.2 with
      | false => simp
      | true =>
        have : ¬ (((cut1 c r).1.length : Int) = -1) := by omega
        simp [this]

theorem cut1_parts (c : UInt8) : ∀ s : List UInt8, (cut1 c s).2.2 = true → s = (cut1 c s).1 ++ c :: (cut1 c s).2.1
  | [], h => by simp [cut1] at h
  | x :: r, h => by
    simp only [cut1] at h ⊢
    by_cases e : x = c
    · simp [e]
    · rw [if_neg e] at h ⊢
      have := cut1_parts c r h
      rw [List.cons_append, ← this]

theorem cut1_none (c : UInt8) : ∀ s : List UInt8, (cut1 c s).2.2 = false → (cut1 c s).1 = s ∧ (cut1 c s).2.1 = [] ∧ cutAll c s = [s] ∧ c ∉ s
  | [], _ => by simp [cut1, cutAll]
  | x :: r, h => by
    simp only [cut1] at h ⊢
    by_cases e : x = c
    · simp [e] at h
    · rw [if_neg e] at h ⊢
      obtain ⟨h1, h2, h3, h4⟩ := cut1_none c r h
      simp only [cutAll, if_neg e, h3, gl]
      exact ⟨by simp [h1], h2, rfl, by simp [h4, Ne.symm e]⟩

theorem cut1_all (c : UInt8) : ∀ s : List UInt8, (cut1 c s).2.2 = true → cutAll c s = (cut1 c s).1 :: cutAll c (cut1 c s).2.1
  | [], h => by simp [cut1] at h
  | x :: r, h => by
    simp only [cut1] at h ⊢
    by_cases e : x = c
    · simp [e, cutAll]
    · rw [if_neg e] at h ⊢
      have := cut1_all c r h
      simp only [cutAll, if_neg e, this, gl]
      simp

theorem Lib_cut (c : UInt8) (s : List UInt8) : Lib.cut s [c] = cut1 c s := by
  have hi := index_one c s
  unfold Lib.cut
  cases h : (cut1 c s).2.2 with
  | false =>
    obtain ⟨h1, h2, _, _⟩ := cut1_none c s h
    rw [h] at hi
    simp only [Bool.false_eq_true, if_false] at hi
    rw [hi, if_neg (by omega)]
    exact Prod.ext h1.symm (Prod.ext h2.symm h.symm)
  | true =>
    have hp := cut1_parts c s h
    rw [h] at hi
    simp only [if_true] at hi
    rw [hi, if_pos (by omega)]
    refine Prod.ext ?_ (Prod.ext ?_ h.symm)
    · show s.take ((cut1 c s).1.length : Int).toNat = (cut1 c s).1
      rw [Int.toNat_natCast]
      exact (List.prefix_iff_eq_take.1 ⟨_, hp.symm⟩).symm
    · show s.drop (((cut1 c s).1.length : Int).toNat + 1) = (cut1 c s).2.1
      rw [Int.toNat_natCast]
      have : s.drop ((cut1 c s).1.length + 1) = ((cut1 c s).1 ++ c :: (cut1 c s).2.1).drop ((cut1 c s).1.length + 1) := by rw [← hp]
      rw [this, List.drop_append]
      simp

def mapO {α β : Type} (f : α → Option β) : List α → Option (List β)
  | [] => some []
  | x :: r => match f x, mapO f r with
    | some y, some l => some (y :: l)
    | _, _ => none

theorem mapO_snoc {α β : Type} {f : α → Option β} {x : α} {y : β} (hy : f x = some y) : ∀ {l : List α} {fs : List β}, mapO f l = some fs → mapO f (l ++ [x]) = some (fs ++ [y])
  | [], fs, h => by simp [mapO] at h; subst h; simp [mapO, hy]
  | z :: r, fs, h => by
    simp only [mapO] at h
    split at h
    · rename_i a b e1 e2
      obtain rfl := Option.some.inj h
      simp [mapO, e1, mapO_snoc hy e2]
    · cases h

theorem mapO_none {α β : Type} {f : α → Option β} {x : α} (hx : f x = none) : ∀ {l : List α}, x ∈ l → mapO f l = none
  | z :: r, h => by
    simp only [mapO]
    rcases List.mem_cons.1 h with rfl | h
    · rw [hx]
    · rw [mapO_none hx h]; split <;> simp_all

theorem mapO_len {α β : Type} {f : α → Option β} : ∀ {l : List α} {fs : List β}, mapO f l = some fs → fs.length = l.length
  | [], fs, h => by simp [mapO] at h; subst h; rfl
  | z :: r, fs, h => by
    simp only [mapO] at h
    split at h
    · rename_i a b e1 e2
      obtain rfl := Option.some.inj h
      simp [mapO_len e2]
    · cases h

theorem mapO_mem {α β : Type} {f : α → Option β} {x : α} {y : β} (hy : f x = some y) : ∀ {l : List α} {fs : List β}, mapO f l = some fs → x ∈ l → y ∈ fs
  | z :: r, fs, h, hx => by
    simp only [mapO] at h
    split at h
    · rename_i a b e1 e2
      obtain rfl := Option.some.inj h
      rcases List.mem_cons.1 hx with rfl | hx
      · rw [hy] at e1; cases e1; simp
      · exact List.mem_cons_of_mem _ (mapO_mem hy e2 hx)
    · cases h

def lineF (s : List UInt8) : Option (Int × Int) :=
  match cutAll 32 s with
  | [a, b] => some (numS a, numS b)
  | _ => none

/-- The findings of a text. -/
def parseF (text : List UInt8) : Option (List (Int × Int)) :=
  match mapO lineF (cutAll 10 text).dropLast with
  | some fs => if (cutAll 10 text).getLast? = some [] ∧ fsOk 60 fs = true then some fs else none
  | none => none

theorem fsOk_mem {n : Int} {l : List (Int × Int)} {f : Int × Int} (h : f ∈ l) (hf : fOk n f = false) : fsOk n l = false := by
  obtain ⟨i, hi, rfl⟩ := List.getElem_of_mem h
  exact allTo_false hi (by simp [fsP, nth_eq hi, hf])

theorem fOk_neg {n : Int} {f : Int × Int} (h : f.1 < 0 ∨ f.2 < 0) : fOk n f = false := by
  rw [fOk_eq]; simp; omega

theorem cutAll_len (c : UInt8) : ∀ s : List UInt8, (cutAll c s).length ≤ s.length + 1
  | [] => by simp [cutAll]
  | x :: r => by
    have := cutAll_len c r
    simp only [cutAll]
    split
    · simp; omega
    · cases h : cutAll c r with
      | nil => simp [gl]
      | cons y t => rw [h] at this; simp [gl] at this ⊢; omega

def parseV (fresh : Bool) (text : List UInt8) : V :=
  match parseF text with
  | some fs => .tup [.sl (some 0) 2 (fs.map fV), .bool true]
  | none => .tup [if fresh then .sl (some 0) 2 [] else .nils, .bool false]

theorem lineF_two {s : List UInt8} {fs : Int × Int} : lineF s = some fs ↔ ∃ a b, cutAll 32 s = [a, b] ∧ fs = (numS a, numS b) := by
  unfold lineF
  split
  · rename_i a b h
    simp only [h, Option.some.injEq, List.cons.injEq, and_true]
    exact ⟨fun e => ⟨a, b, ⟨rfl, rfl⟩, e.symm⟩, fun ⟨a', b', ⟨e1, e2⟩, e⟩ => by rw [e, e1, e2]⟩
  · rename_i h; simp; intro a b e; exact absurd e (h a b)

theorem numS_range (l : List UInt8) : -1 ≤ numS l ∧ numS l < 1000 := by
  unfold numS
  split
  · rename_i h
    simp only [smallOk, Bool.and_eq_true, decide_eq_true_eq] at h
    have h3 := decN_lt (l := l) (fun c hc => List.all_eq_true.1 h.2 c hc)
    have : 10 ^ l.length ≤ 10 ^ 3 := Nat.pow_le_pow_right (by omega) h.1.1.2
    omega
  · omega

theorem gl_mem {p x : List UInt8} {l : List (List UInt8)} (h : x ∈ gl p l) : x ∈ l ∨ ∃ y, (y ∈ l ∨ y = []) ∧ x = p ++ y := by
  cases l with
  | nil => simp [gl] at h; exact .inr ⟨[], .inr rfl, by simp [h]⟩
  | cons y t =>
    simp [gl] at h
    rcases h with h | h
    · exact .inr ⟨y, .inl (by simp), h⟩
    · exact .inl (by simp [h])

theorem cutAll_part (c : UInt8) (s : List UInt8) : ∀ x, x ∈ cutAll c s → x.length ≤ s.length := by
  induction s with
  | nil => intro x h; simp [cutAll] at h; simp [h]
  | cons y r ih =>
    intro x h
    simp only [cutAll] at h
    split at h
    · rcases List.mem_cons.1 h with h | h
      · simp [h]
      · have := ih x h; simp; omega
    · rcases gl_mem h with h | ⟨z, h, e⟩
      · have := ih x h; simp; omega
      · rcases h with h | h
        · have := ih z h; simp [e]; omega
        · simp [e, h]

theorem mem_dropLast {α : Type} [Inhabited α] {l : List α} {i : Nat} (h : i + 1 < l.length) : nth l i ∈ l.dropLast := by
  rw [nth_eq (by omega)]
  have : l[i] = l.dropLast[i]'(by simp; omega) := by simp
  rw [this]; exact List.getElem_mem _

theorem spec_FindingsParse_ok (text : List UInt8) (hs : text.length ≤ 4294967000) : Fn Try.prog fn_spec_FindingsParse [.str text] [] (parseV true text) [] := by
  refine Fn.of_go ln_spec_FindingsParse rfl ?_
  have hcl := cutAll_len 10 text
  have hne := cutAll_ne 10 text
  have hpt := cutAll_part 10 text
  simp [ac_spec_FindingsParse]
  refine goCall_eq (l42Cut_ok text 10 (by omega)) (by simp) ?_
  obtain ⟨ls, hls⟩ : ∃ ls, cutAll 10 text = ls := ⟨_, rfl⟩
  rw [hls] at hcl hne hpt ⊢
  simp
  have hl0 : 0 < ls.length := List.length_pos_iff.2 hne
  refine go_loop (fun (x : Nat × List (Int × Int)) => { env := [(4, .sl (some 0) 2 (x.2.map fV)), (5, .sl (some 1) 1 (ls.map V.str)), (6, .int .i64 (x.1 : Nat))], loc := [], box := [], stat := [(0, some (.own x.2.length 2)), (1, some (.own ls.length 1))] })
    (fun x => x.1 + 1 ≤ ls.length ∧ mapO lineF (ls.take x.1) = some x.2) (fun x => ls.length - x.1) (0, []) ⟨hl0, rfl⟩ (Weak.of [(0, some 128, 0, 2), (1, some 160, ls.length, 1)] [] (by simp)) ?_
  rintro ⟨i, fs⟩ ⟨h1, h2⟩
  simp only at h1 h2
  have hfl := mapO_len h2
  simp at hfl
  simp
  refine ⟨by omega, goTest_dec (fun hlt => ?_) (fun hge => ?_)⟩
  · have hlt2 : i < ls.length := by omega
    have hmem : nth ls i ∈ ls.dropLast := mem_dropLast (by omega)
    have hnl := hpt _ (nth_mem hlt2)
    simp [hlt2]
    refine goCall_eq (l42Cut_ok (nth ls i) 32 (by omega)) (by simp) ?_
    simp
    refine goTest_dec (fun h3 => ?_) (fun h3 => ?_)
    · obtain ⟨a, b, hab⟩ : ∃ a b, cutAll 32 (nth ls i) = [a, b] := by
        match h : cutAll 32 (nth ls i), h3 with
        | [a, b], _ => exact ⟨a, b, rfl⟩
        | [], q => simp at q
        | [_], q => simp at q
        | _ :: _ :: _ :: _, q => simp at q
      have hline : lineF (nth ls i) = some (numS a, numS b) := lineF_two.2 ⟨a, b, hab, rfl⟩
      have hsn := mapO_snoc hline h2
      rw [← take_nth hlt2] at hsn
      simp [hab]
      refine goDCall_eq (l42Number_ok a) (by simp) (by simp) ?_
      simp
      refine goDCall_eq (l42Number_ok b) (by simp) (by simp) ?_
      simp
      refine ⟨by simp [roomOk]; omega, by omega, .mk (i + 1, fs ++ [(numS a, numS b)]) ⟨by simp; omega, by simpa using hsn⟩ (by simp; omega) (Weak.of [(0, some 0, fs.length + 1, 2), (1, some 1, ls.length, 1)] [] (by simp [fV]))⟩
    · have hbad : lineF (nth ls i) = none := by
        unfold lineF
        split
        · rename_i a b h; rw [h] at h3; simp at h3
        · rfl
      simp [h3]
      exact Ends.mk [(0, some 416, 0, 2)] [] (by simp [parseV, parseF, hls, mapO_none hbad hmem])
  · have hi : ls.length = i + 1 := by omega
    have hdl : ls.dropLast = ls.take i := by rw [List.dropLast_eq_take, hi]; rfl
    have hlast : ls.getLast? = some (nth ls i) := by
      rw [List.getLast?_eq_getElem?, nth_eq (show i < ls.length by omega), List.getElem?_eq_getElem (by omega)]; simp [hi]
    have e1 : ((ls.length : Int) - 1).toNat = i := by omega
    have hlt2 : i < ls.length := by omega
    have hpv : parseV true text = if nth ls i = [] ∧ fsOk 60 fs = true then .tup [.sl (some 0) 2 (fs.map fV), .bool true] else .tup [.sl (some 0) 2 [], .bool false] := by
      simp only [parseV, parseF, hls, hdl, h2, hlast, Option.some.injEq]
      by_cases hc : nth ls i = [] ∧ fsOk 60 fs = true
      · rw [if_pos hc, if_pos hc]
      · rw [if_neg hc, if_neg hc]; rfl
    simp [e1, hi, hlt2]
    refine ⟨by omega, by omega, goTest_dec (fun h3 => ?_) (fun h3 => ?_)⟩
    · simp [h3]
      refine goCall_gen [] [] [] [0] none (l42Valid_ok fs (by omega)) (by simp [fsl]) ?_
      simp
      refine goTest_bool (fun h4 => ?_) (fun h4 => ?_)
      · simp [h4]
        exact Ends.mk [(0, some 0, fs.length, 2)] [] (by simp [hpv, h3, h4])
      · simp [h4]
        exact Ends.mk [(0, some 816, 0, 2)] [] (by simp [hpv, h4])
    · simp [h3]
      exact Ends.mk [(0, some 816, 0, 2)] [] (by simp [hpv, h3])
end Go.Proofs.Ytpiafiapjmldgaa
