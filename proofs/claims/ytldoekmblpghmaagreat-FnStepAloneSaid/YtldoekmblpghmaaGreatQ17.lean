/-
  The library's functions, by the contracts of the kit's shelf.
  Texts: cutting and numbers.
  Reading findings: the program's function and the reference's do the same.
  The program's FindingsParse.
  The reader of codes, and texts.
  Numbers and findings as texts, by the reference.
  Draws: what is drawn returns, and what it returns is not long.
  Comparing findings, counting lines, and the draw of a text of findings.
  Messages: bytes in two digits each, numbers of a serial kind, and the texts of messages by the program and by the reference.
  Messages: numbers of a serial kind, and the texts of messages by the program and by the reference.
  Chunks, parts, packets and associations, as plain data and as values.
-/
import Derived.Test.YtldoekmblpghmaaGreatQ16
import Derived.Test.YtldoekmblpghmaaGreatShelf
import Derived.Below
namespace Go.Proofs.YtldoekmblpghmaaGreat
set_option linter.all false

section
open Go.RowKit

/-- A function that changes no memory that was there, and hands back none. -/
theorem Fn.of_below {P : Program} {f : FuncId} {args : List V} {R : V} (hargs : argStat args [] = []) (hR : R.stat = [])
    (h : ∀ (w : World) (γ : Ghost) (vs : List Value), Tb (γ.un w) w → CellsRel [] γ w args vs → Calls P f vs.toArray w fun e w' => ∃ v, e = .returned v ∧ Below w.heap.size w w' ∧ VRel [] γ w' R v) : Fn P f args [] R [] := by
  intro w γ vs hT hH hc
  rw [hargs] at hH hc
  refine (h w γ vs hT hc).mono fun e w' hex => ?_
  obtain ⟨v, rfl, hb, h5⟩ := hex
  have hs : resStat R [] = [] := by unfold resStat; rw [hR]; rfl
  refine ⟨v, γ, rfl, ?_, ?_⟩
  · rw [hs]
    refine ⟨fun d cs hl => ?_, ⟨fun d g hg => hH.bxd.1 d g hg, hH.bxd.2⟩, fun σ top sz q => ?_, fun g x hg => ?_, ⟨hH.av.1, fun g hg => ?_⟩, ?_⟩
    · simp [boxesOf, boxesFrom, lookB] at hl
    · simp [lookS] at q
    · exact ⟨Nat.lt_of_lt_of_le (hH.ow g x hg).1 hb.size, (hH.ow g x hg).2⟩
    · exact ⟨Nat.lt_of_lt_of_le (hH.av.2 g hg).1 hb.size, (hH.av.2 g hg).2⟩
    · exact ⟨hb.os, hb.tape, hb.output, hb.size, fun g hg _ => hb.block g hg⟩
  · rw [hs]; exact h5

theorem Below.of_heap {w w' : World} (h1 : w'.heap = w.heap) (h2 : w'.os = w.os) (h3 : w'.tape = w.tape) (h4 : w'.output = w.output) : Below w.heap.size w w' :=
  ⟨h2, h3, h4, by rw [h1]; exact Nat.le_refl _, fun g _ => by rw [h1]⟩

theorem arg1 {S : Stats} {γ : Ghost} {w : World} {x : V} {vs : List Value} (h : CellsRel S γ w [x] vs) : ∃ v, vs = [v] ∧ VRel S γ w x v := by
  obtain ⟨hl, he⟩ := h
  match vs, hl with
  | [v], _ => exact ⟨v, rfl, he 0 (by simp) (by simp)⟩

theorem arg2 {S : Stats} {γ : Ghost} {w : World} {x y : V} {vs : List Value} (h : CellsRel S γ w [x, y] vs) : ∃ v u, vs = [v, u] ∧ VRel S γ w x v ∧ VRel S γ w y u := by
  obtain ⟨hl, he⟩ := h
  match vs, hl with
  | [v, u], _ => exact ⟨v, u, rfl, he 0 (by simp) (by simp), he 1 (by simp) (by simp)⟩
end

section
set_option maxRecDepth 20000
attribute [-simp] List.getD_eq_getElem?_getD

/-- A text put ahead of the first part. -/
def gl (p : List UInt8) : List (List UInt8) → List (List UInt8)
  | [] => [p]
  | h :: t => (p ++ h) :: t

/-- A text, cut at every byte of a kind. -/
def cutAll (c : UInt8) : List UInt8 → List (List UInt8)
  | [] => [[]]
  | x :: r => if x = c then [] :: cutAll c r else gl [x] (cutAll c r)

theorem gl_gl (p q : List UInt8) (l : List (List UInt8)) : gl p (gl q l) = gl (p ++ q) l := by cases l <;> simp [gl]
theorem gl_nil {l : List (List UInt8)} (h : l ≠ []) : gl [] l = l := by cases l <;> simp_all [gl]
theorem cutAll_ne (c : UInt8) (l : List UInt8) : cutAll c l ≠ [] := by
  cases l with
  | nil => simp [cutAll]
  | cons x r => simp only [cutAll]; split; simp; cases cutAll c r <;> simp [gl]

theorem drop_nth {α : Type} [Inhabited α] {l : List α} {i : Nat} (h : i < l.length) : l.drop i = nth l i :: l.drop (i + 1) := by
  rw [nth_eq h]; exact List.drop_eq_getElem_cons h

theorem idx_nth {l : List UInt8} {i : Nat} (h : i < l.length) : l.getD i 0 = nth l i := getD_nth h

def strs (l : List (List UInt8)) : List V := l.map V.str

def dig (c : UInt8) : Bool := 48 ≤ c.toNat && c.toNat ≤ 57

/-- The number of decimal digits. -/
def decN (l : List UInt8) : Nat := l.foldl (fun n c => 10 * n + (c.toNat - 48)) 0

def smallOk (l : List UInt8) : Bool := 1 ≤ l.length && l.length ≤ 3 && (l.length == 1 || (l.getD 0 0).toNat != 48) && l.all dig

theorem dec_lt : ∀ (l : List UInt8) (n : Nat), (∀ c ∈ l, dig c = true) → l.foldl (fun n c => 10 * n + (c.toNat - 48)) n < 10 ^ l.length * (n + 1)
  | [], n, _ => by show n < 1 * (n + 1); omega
  | c :: r, n, h => by
    have h1 := dec_lt r (10 * n + (c.toNat - 48)) fun x hx => h x (List.mem_cons_of_mem _ hx)
    have h2 := h c List.mem_cons_self
    simp only [dig, Bool.and_eq_true, decide_eq_true_eq] at h2
    rw [List.foldl_cons, List.length_cons, Nat.pow_succ, Nat.mul_assoc]
    exact Nat.lt_of_lt_of_le h1 (Nat.mul_le_mul_left _ (by omega))

theorem decN_lt {l : List UInt8} (h : ∀ c ∈ l, dig c = true) : decN l < 10 ^ l.length := by
  have := dec_lt l 0 h
  simp only [Nat.zero_add, Nat.mul_one] at this; exact this

theorem decN_snoc {l : List UInt8} {i : Nat} (h : i < l.length) : decN (l.take (i + 1)) = 10 * decN (l.take i) + ((l.getD i 0).toNat - 48) := by
  rw [List.take_add_one, decN, List.foldl_append]
  simp [decN, h, List.getD_eq_getElem?_getD]


theorem dig_iff {c : UInt8} : dig c = true ↔ 48 ≤ c.toNat ∧ c.toNat ≤ 57 := by simp [dig]

def numS (l : List UInt8) : Int := if smallOk l then decN l else -1
end

section
set_option maxRecDepth 20000
attribute [-simp] List.getD_eq_getElem?_getD

/-! ## Plain lists -/

def cut1 (c : UInt8) : List UInt8 → List UInt8 × List UInt8 × Bool
  | [] => ([], [], false)
  | x :: r => if x = c then ([], r, true) else (x :: (cut1 c r).1, (cut1 c r).2.1, (cut1 c r).2.2)

theorem cut1_parts (c : UInt8) : ∀ s : List UInt8, (cut1 c s).2.2 = true → s = (cut1 c s).1 ++ c :: (cut1 c s).2.1
  | [], h => by simp [cut1] at h
  | x :: r, h => by
    simp only [cut1] at h ⊢
    by_cases e : x = c
    · simp [e]
    · rw [if_neg e] at h ⊢
      have := cut1_parts c r h
      rw [List.cons_append, ← this]

theorem cut1_none (c : UInt8) : ∀ s : List UInt8, (cut1 c s).2.2 = false → (cut1 c s).1 = s ∧ (cut1 c s).2.1 = [] ∧ cutAll c s = [s] ∧ c ∉ s
  | [], _ => by simp [cut1, cutAll]
  | x :: r, h => by
    simp only [cut1] at h ⊢
    by_cases e : x = c
    · simp [e] at h
    · rw [if_neg e] at h ⊢
      obtain ⟨h1, h2, h3, h4⟩ := cut1_none c r h
      simp only [cutAll, if_neg e, h3, gl]
      exact ⟨by simp [h1], h2, rfl, by simp [h4, Ne.symm e]⟩

theorem cut1_all (c : UInt8) : ∀ s : List UInt8, (cut1 c s).2.2 = true → cutAll c s = (cut1 c s).1 :: cutAll c (cut1 c s).2.1
  | [], h => by simp [cut1] at h
  | x :: r, h => by
    simp only [cut1] at h ⊢
    by_cases e : x = c
    · simp [e, cutAll]
    · rw [if_neg e] at h ⊢
      have := cut1_all c r h
      simp only [cutAll, if_neg e, this, gl]
      simp

def mapO {α β : Type} (f : α → Option β) : List α → Option (List β)
  | [] => some []
  | x :: r => match f x, mapO f r with
    | some y, some l => some (y :: l)
    | _, _ => none

theorem mapO_snoc {α β : Type} {f : α → Option β} {x : α} {y : β} (hy : f x = some y) : ∀ {l : List α} {fs : List β}, mapO f l = some fs → mapO f (l ++ [x]) = some (fs ++ [y])
  | [], fs, h => by simp [mapO] at h; subst h; simp [mapO, hy]
  | z :: r, fs, h => by
    simp only [mapO] at h
    split at h
    · rename_i a b e1 e2
      obtain rfl := Option.some.inj h
      simp [mapO, e1, mapO_snoc hy e2]
    · cases h

theorem mapO_none {α β : Type} {f : α → Option β} {x : α} (hx : f x = none) : ∀ {l : List α}, x ∈ l → mapO f l = none
  | z :: r, h => by
    simp only [mapO]
    rcases List.mem_cons.1 h with rfl | h
    · rw [hx]
    · rw [mapO_none hx h]; split <;> simp_all

theorem mapO_len {α β : Type} {f : α → Option β} : ∀ {l : List α} {fs : List β}, mapO f l = some fs → fs.length = l.length
  | [], fs, h => by simp [mapO] at h; subst h; rfl
  | z :: r, fs, h => by
    simp only [mapO] at h
    split at h
    · rename_i a b e1 e2
      obtain rfl := Option.some.inj h
      simp [mapO_len e2]
    · cases h

theorem mapO_mem {α β : Type} {f : α → Option β} {x : α} {y : β} (hy : f x = some y) : ∀ {l : List α} {fs : List β}, mapO f l = some fs → x ∈ l → y ∈ fs
  | z :: r, fs, h, hx => by
    simp only [mapO] at h
    split at h
    · rename_i a b e1 e2
      obtain rfl := Option.some.inj h
      rcases List.mem_cons.1 hx with rfl | hx
      · rw [hy] at e1; cases e1; simp
      · exact List.mem_cons_of_mem _ (mapO_mem hy e2 hx)
    · cases h

def lineF (s : List UInt8) : Option (Int × Int) :=
  match cutAll 32 s with
  | [a, b] => some (numS a, numS b)
  | _ => none

/-- The findings of a text. -/
def parseF (text : List UInt8) : Option (List (Int × Int)) :=
  match mapO lineF (cutAll 10 text).dropLast with
  | some fs => if (cutAll 10 text).getLast? = some [] ∧ fsOk 60 fs = true then some fs else none
  | none => none

theorem fsOk_mem {n : Int} {l : List (Int × Int)} {f : Int × Int} (h : f ∈ l) (hf : fOk n f = false) : fsOk n l = false := by
  obtain ⟨i, hi, rfl⟩ := List.getElem_of_mem h
  exact allTo_false hi (by simp [fsP, nth_eq hi, hf])

theorem fOk_neg {n : Int} {f : Int × Int} (h : f.1 < 0 ∨ f.2 < 0) : fOk n f = false := by
  rw [fOk_eq]; simp; omega

theorem cutAll_len (c : UInt8) : ∀ s : List UInt8, (cutAll c s).length ≤ s.length + 1
  | [] => by simp [cutAll]
  | x :: r => by
    have := cutAll_len c r
    simp only [cutAll]
    split
    · simp; omega
    · cases h : cutAll c r with
      | nil => simp [gl]
      | cons y t => rw [h] at this; simp [gl] at this ⊢; omega

def parseV (fresh : Bool) (text : List UInt8) : V :=
  match parseF text with
  | some fs => .tup [.sl (some 0) 2 (fs.map fV), .bool true]
  | none => .tup [if fresh then .sl (some 0) 2 [] else .nils, .bool false]

theorem lineF_two {s : List UInt8} {fs : Int × Int} : lineF s = some fs ↔ ∃ a b, cutAll 32 s = [a, b] ∧ fs = (numS a, numS b) := by
  unfold lineF
  split
  · rename_i a b h
    simp only [h, Option.some.injEq, List.cons.injEq, and_true]
    exact ⟨fun e => ⟨a, b, ⟨rfl, rfl⟩, e.symm⟩, fun ⟨a', b', ⟨e1, e2⟩, e⟩ => by rw [e, e1, e2]⟩
  · rename_i h; simp; intro a b e; exact absurd e (h a b)

theorem numS_range (l : List UInt8) : -1 ≤ numS l ∧ numS l < 1000 := by
  unfold numS
  split
  · rename_i h
    simp only [smallOk, Bool.and_eq_true, decide_eq_true_eq] at h
    have h3 := decN_lt (l := l) (fun c hc => List.all_eq_true.1 h.2 c hc)
    have : 10 ^ l.length ≤ 10 ^ 3 := Nat.pow_le_pow_right (by omega) h.1.1.2
    omega
  · omega

theorem gl_mem {p x : List UInt8} {l : List (List UInt8)} (h : x ∈ gl p l) : x ∈ l ∨ ∃ y, (y ∈ l ∨ y = []) ∧ x = p ++ y := by
  cases l with
  | nil => simp [gl] at h; exact .inr ⟨[], .inr rfl, by simp [h]⟩
  | cons y t =>
    simp [gl] at h
    rcases h with h | h
    · exact .inr ⟨y, .inl (by simp), h⟩
    · exact .inl (by simp [h])

theorem cutAll_part (c : UInt8) (s : List UInt8) : ∀ x, x ∈ cutAll c s → x.length ≤ s.length := by
  induction s with
  | nil => intro x h; simp [cutAll] at h; simp [h]
  | cons y r ih =>
    intro x h
    simp only [cutAll] at h
    split at h
    · rcases List.mem_cons.1 h with h | h
      · simp [h]
      · have := ih x h; simp; omega
    · rcases gl_mem h with h | ⟨z, h, e⟩
      · have := ih x h; simp; omega
      · rcases h with h | h
        · have := ih z h; simp [e]; omega
        · simp [e, h]

theorem mem_dropLast {α : Type} [Inhabited α] {l : List α} {i : Nat} (h : i + 1 < l.length) : nth l i ∈ l.dropLast := by
  rw [nth_eq (by omega)]
  have : l[i] = l.dropLast[i]'(by simp; omega) := by simp
  rw [this]; exact List.getElem_mem _
end

section
set_option maxRecDepth 20000
attribute [-simp] List.getD_eq_getElem?_getD

theorem cutAll_notin {c : UInt8} : ∀ {s : List UInt8}, c ∉ s → cutAll c s = [s]
  | [], _ => rfl
  | x :: r, h => by
    simp at h
    simp [cutAll, Ne.symm h.1, cutAll_notin h.2, gl]

theorem small_notin {s : List UInt8} (h : smallOk s = true) : (32 : UInt8) ∉ s := fun hm => by
  simp only [smallOk, Bool.and_eq_true, List.all_eq_true] at h
  have := h.2 _ hm
  simp [dig] at this

theorem parse_bad {text line : List UInt8} {ls : List (List UInt8)} (hls : cutAll 10 text = ls) (hm : line ∈ ls.dropLast) (hb : ∀ f, lineF line = some f → f.1 < 0 ∨ f.2 < 0) : parseF text = none := by
  unfold parseF
  rw [hls]
  cases h : lineF line with
  | none => rw [mapO_none h hm]
  | some f =>
    cases h2 : mapO lineF ls.dropLast with
    | none => rfl
    | some fs =>
      have := fsOk_mem (n := 60) (mapO_mem h h2 hm) (fOk_neg (hb f h))
      simp [this]

theorem dropLast_mid {α : Type} {a : List α} {x : α} {b : List α} (h : b ≠ []) : x ∈ (a ++ x :: b).dropLast := by
  rw [List.dropLast_append_of_ne_nil (by simp)]
  cases b with
  | nil => exact absurd rfl h
  | cons y t => simp
end

section
set_option maxRecDepth 20000

theorem getD_bytes {l : List UInt8} {i : Nat} (h : i < l.length) : (l.map byteV).getD i .undef = byteV (l.getD i 0) := by
  simp [List.getD_eq_getElem?_getD, h]

theorem xor_nonneg {x y : Int} (hx : 0 ≤ x) (hx2 : x < 2 ^ 62) (hy : 0 ≤ y) (hy2 : y < 2 ^ 62) : 0 ≤ bitsV .xor .i64 x y := by
  obtain ⟨a, rfl⟩ := Int.eq_ofNat_of_zero_le hx
  obtain ⟨b, rfl⟩ := Int.eq_ofNat_of_zero_le hy
  have ha : a < 2 ^ 62 := by omega
  have hb : b < 2 ^ 62 := by omega
  have hab := Nat.xor_lt_two_pow ha hb
  have e1 : (BitVec.ofInt 64 (a : Int)).toNat = a := by
    simp [BitVec.toNat_ofInt]; omega
  have e2 : (BitVec.ofInt 64 (b : Int)).toNat = b := by
    simp [BitVec.toNat_ofInt]; omega
  have e : (BitVec.ofInt 64 (a : Int) ^^^ BitVec.ofInt 64 (b : Int)).toNat = a ^^^ b := by
    rw [BitVec.toNat_xor, e1, e2]
  show 0 ≤ IntKind.i64.wrap ((BitVec.ofInt 64 (a : Int) ^^^ BitVec.ofInt 64 (b : Int)).toNat : Int)
  rw [e]
  rw [wrap_i64 (by omega) (by omega)]
  omega

set_option maxRecDepth 20000 in
theorem pick_ok (src : List UInt8) (at_ : Nat) (n : Int) (h : at_ < 1000000000) (hn : n < 1000000) : ∃ r : Int, 0 ≤ r ∧ (r < n ∨ (n < 1 ∧ r = 0) ∨ r = 0) ∧
    Fn Tryz.prog fn_spec_l6Rd_pick [.ptr 1000 0, .int .i64 n] [[bsl src, .int .i64 at_]] (.int .i64 r) [[bsl src, .int .i64 (at_ + 1)]] := by
  by_cases h1 : n < 1
  · refine ⟨0, by omega, by omega, Fn.of_go ln_spec_l6Rd_pick rfl ?_⟩
    simp [ac_spec_l6Rd_pick, bsl, h1]
    exact ⟨by omega, .mk [] [(1000, 1000)] (by simp)⟩
  by_cases h2 : src.length = 0
  · refine ⟨0, by omega, by omega, Fn.of_go ln_spec_l6Rd_pick rfl ?_⟩
    simp [ac_spec_l6Rd_pick, bsl, h1, h2]
    exact ⟨by omega, .mk [] [(1000, 1000)] (by simp)⟩
  have h2' : ¬ (src.length : Int) = 0 := by omega
  by_cases h3 : at_ < src.length
  · refine ⟨((src.getD at_ 0).toNat : Int).tmod n, ?_, ?_, Fn.of_go ln_spec_l6Rd_pick rfl ?_⟩
    · exact Int.tmod_nonneg _ (Int.natCast_nonneg _)
    · exact .inl (Int.tmod_lt_of_pos _ (by omega))
    · have e : (at_ : Int) + 1 - 1 = at_ := by omega
      have h3' : (at_ : Int) < src.length := by omega
      simp [ac_spec_l6Rd_pick, bsl, h1, h2, h2', e, h3, h3', wrap_u8]
      exact ⟨by omega, by omega, by omega, .mk [] [(1000, 1000)] (by simp)⟩
  have h3' : ¬ (at_ : Int) < src.length := by omega
  have e : (at_ : Int) + 1 - 1 = at_ := by omega
  have hpos : 0 < src.length := by omega
  have q1 : (at_ : Int).tmod src.length = ((at_ % src.length : Nat) : Int) := rfl
  have q2 : ((at_ : Int) * 7 + 3).tmod src.length = (((at_ * 7 + 3) % src.length : Nat) : Int) := rfl
  have q3 : (at_ : Int).tdiv src.length = ((at_ / src.length : Nat) : Int) := rfl
  have m1 : at_ % src.length < src.length := Nat.mod_lt _ hpos
  have m2 : (at_ * 7 + 3) % src.length < src.length := Nat.mod_lt _ hpos
  have m3 : at_ / src.length ≤ at_ := Nat.div_le_self _ _
  have g0 : (0 : Int) ≤ (at_ : Int) / src.length := Int.ediv_nonneg (by omega) (by omega)
  have u1 := (src[at_ % src.length]).toNat_lt
  have u2 := (src[(at_ * 7 + 3) % src.length]).toNat_lt
  refine ⟨(bitsV .xor .i64 ((src[at_ % src.length].toNat : Int) * 131 + (src[(at_ * 7 + 3) % src.length].toNat : Int) * 1117 + at_ * 29 + ((at_ / src.length : Nat) : Int) * 53)
    (((src[at_ % src.length].toNat : Int) * 131 + (src[(at_ * 7 + 3) % src.length].toNat : Int) * 1117 + at_ * 29 + ((at_ / src.length : Nat) : Int) * 53).tdiv 64)).tmod n, ?_, ?_, Fn.of_go ln_spec_l6Rd_pick rfl ?_⟩
  · refine Int.tmod_nonneg _ (xor_nonneg (by omega) (by omega) (Int.tdiv_nonneg (by omega) (by omega)) ?_)
    rw [Int.tdiv_eq_ediv_of_nonneg (by omega)]
    omega
  · exact .inl (Int.tmod_lt_of_pos _ (by omega))
  · have m1' : ((at_ % src.length : Nat) : Int) < src.length := by omega
    have m2' : (((at_ * 7 + 3) % src.length : Nat) : Int) < src.length := by omega
    simp [ac_spec_l6Rd_pick, bsl, h1, h2, h2', e, h3, h3', wrap_u8, q1, q2, q3, m1, m2, m1', m2', -Int.natCast_emod, -Int.natCast_ediv]
    rw [Int.tdiv_eq_ediv_of_nonneg (by omega)]
    refine ⟨by omega, by omega, by omega, by omega, by omega, by omega, by omega, by omega, by omega, by omega, by omega, by omega, by omega, by omega, .mk [] [(1000, 1000)] (by simp)⟩

theorem open_ok (l : List UInt8) : Fn Tryz.prog fn_spec_l6Open [bsl l] [] (.ptr 1000 0) [[bsl (l.take 2000), .int .i64 0]] := by
  refine Fn.of_go ln_spec_l6Open rfl ?_
  by_cases h : 2000 < l.length
  · have h' : (2000 : Int) < l.length := by omega
    simp [ac_spec_l6Open, bsl, h, h', fillV, partsOk]
    exact ⟨by omega, .mk [] [(1000, 10)] (by simp)⟩
  · have h' : ¬ (2000 : Int) < l.length := by omega
    simp [ac_spec_l6Open, bsl, h, h', fillV, partsOk]
    exact .mk [] [(1000, 10)] (by simp; rw [List.take_of_length_le]; simp; omega)
end

section
set_option maxRecDepth 20000
attribute [-simp] List.getD_eq_getElem?_getD

/-- A number in decimal digits. -/
def decS (n : Nat) : List UInt8 :=
  if n < 10 then [UInt8.ofNat (48 + n)] else decS (n / 10) ++ [UInt8.ofNat (48 + n % 10)]
termination_by n

theorem decS_len : ∀ (k n : Nat), n < 10 ^ k → (decS n).length ≤ k + 1
  | 0, n, h => by
    have : n = 0 := by simpa using h
    subst this
    unfold decS; simp
  | k + 1, n, h => by
    unfold decS
    split
    · simp
    · have := decS_len k (n / 10) (by rw [Nat.div_lt_iff_lt_mul (by omega), ← Nat.pow_succ]; exact h)
      simp; omega

def lineT (f : Int × Int) : List UInt8 := decS f.1.toNat ++ [32] ++ decS f.2.toNat ++ [10]
/-- The text of findings. -/
def textF (l : List (Int × Int)) : List UInt8 := l.flatMap lineT

theorem decS_len20 {n : Nat} (h : n < 10 ^ 19) : (decS n).length ≤ 20 := decS_len 19 n h

theorem textF_len : ∀ {l : List (Int × Int)}, (∀ f ∈ l, f.1 < 1000000000000 ∧ f.2 < 1000000000000) → (textF l).length ≤ 42 * l.length
  | [], _ => by simp [textF]
  | f :: r, h => by
    have ih := textF_len (l := r) fun g hg => h g (List.mem_cons_of_mem _ hg)
    obtain ⟨h1, h2⟩ := h f List.mem_cons_self
    have a1 := decS_len20 (n := f.1.toNat) (by omega)
    have a2 := decS_len20 (n := f.2.toNat) (by omega)
    simp only [textF, List.flatMap_cons, lineT, List.length_append, List.length_cons, List.length_nil] at ih ⊢
    omega

theorem textF_snoc {l : List (Int × Int)} {i : Nat} (h : i < l.length) : textF (l.take (i + 1)) = textF (l.take i) ++ lineT (nth l i) := by
  rw [take_nth h]; simp [textF]

theorem fOk_range {n : Int} {f : Int × Int} (h : fOk n f = true) : (0 ≤ f.1 ∧ f.1 < n) ∧ 0 ≤ f.2 ∧ f.2 < 106 := by
  rw [fOk_eq] at h; simp at h; omega

theorem fsOk_all {n : Int} {l : List (Int × Int)} (h : fsOk n l = true) : ∀ f ∈ l, fOk n f = true := fun f hf => by
  obtain ⟨i, hi, rfl⟩ := List.getElem_of_mem hf
  have := allTo_iff.1 h i hi
  simp only [fsP, Bool.and_eq_true, nth_eq hi] at this
  exact this.1

/-- What FindingsText returns. -/
def ftext (l : List (Int × Int)) : List UInt8 := if fsOk 60 l then textF l else []
end

section
set_option maxRecDepth 20000
attribute [-simp] List.getD_eq_getElem?_getD

/-- The reader of a code. -/
def rdB (src : List UInt8) (a : Int) : List V := [bsl src, .int .i64 a]

theorem pickI (src : List UInt8) (a n : Int) (h : 0 ≤ a ∧ a < 1000000000) (hn : 0 < n ∧ n < 1000000) : ∃ r : Nat, (r : Int) < n ∧
    Fn Tryz.prog fn_spec_l6Rd_pick [.ptr 1000 0, .int .i64 n] [[bsl src, .int .i64 a]] (.int .i64 r) [[bsl src, .int .i64 (a + 1)]] := by
  obtain ⟨k, rfl⟩ := Int.eq_ofNat_of_zero_le h.1
  obtain ⟨r, h1, h2, h3⟩ := pick_ok src k n (by omega) (by omega)
  obtain ⟨i, rfl⟩ := Int.eq_ofNat_of_zero_le h1
  exact ⟨i, by omega, h3⟩

/-- A number is drawn. -/
theorem goPick {st : St} {p : Nat} {src : List UInt8} {a n : Int} {d : AD} {rs : List AOp} {k : List It} {Q : AE → St → Prop} (hb : lookB st.box p = some [bsl src, .int .i64 a]) (ha : 0 ≤ a ∧ a < 1000000000) (hn : 0 < n ∧ n < 1000000)
    (h : ∀ r : Nat, (r : Int) < n → go Tryz.prog (.ops rs :: k) Q .normal (Delta.apply { val := .int .i64 r, nb := [(p, [.sl none 1 (src.map byteV), .int .i64 (a + 1)])] } st d)) : goCall Tryz.prog fn_spec_l6Rd_pick [.ptr p 0, .int .i64 n] d rs k Q st := by
  obtain ⟨r, hr, f⟩ := pickI src a n ha hn
  refine goCall_gen [] [(1000, p)] [] [] none f (by simp [bsl, hb]) ?_
  have := h r hr
  simpa [bsl] using this

def ssl (l : List (List UInt8)) : V := .sl none 1 (l.map V.str)

theorem of_ok (src : List UInt8) (a : Int) (xs : List (List UInt8)) (h : 0 ≤ a ∧ a < 1000000000) (hx : 0 < xs.length) (hx2 : xs.length < 1000000) : ∃ s ∈ xs,
    Fn Tryz.prog fn_spec_l6Rd_of [.ptr 1000 0, ssl xs] [[bsl src, .int .i64 a]] (.str s) [[bsl src, .int .i64 (a + 1)]] := by
  obtain ⟨r, hr, hf⟩ := pickI src a xs.length h (by omega)
  have hr2 : r < xs.length := by omega
  refine ⟨nth xs r, nth_mem hr2, Fn.of_go ln_spec_l6Rd_of rfl ?_⟩
  simp [ac_spec_l6Rd_of, ssl, bsl]
  refine goCall_gen [] [(1000, 1000)] [] [] none hf (by simp [bsl]) ?_
  simp [bsl, hr2]
  exact Ends.mk [] [(1000, 1000)] (by simp)

/-- A text that was drawn. -/
inductive StrR (src : List UInt8) (a k : Int) (n : Nat) : V → List (List V) → Prop
  | mk (t : List UInt8) (b : Int) (h : t.length ≤ n) (hb : a ≤ b ∧ b ≤ a + k) : StrR src a k n (.str t) [[bsl src, .int .i64 b]]

theorem spoil_ok (src : List UInt8) (a : Int) (s : List UInt8) (h : 0 ≤ a ∧ a < 100000000) (hs : s.length < 100000) : ∃ R bo, StrR src a 4 (s.length + 1) R bo ∧
    Fn Tryz.prog fn_spec_l91Spoil [.ptr 1000 0, .str s] [[bsl src, .int .i64 a]] R bo := by
  refine Fx.of_go ln_spec_l91Spoil rfl ?_
  by_cases h1 : s = []
  · simp [ac_spec_l91Spoil, h1, bsl]
    exact ⟨_, _, .mk ([]) (a) (by simp) (by omega), Ends.mk [] [(1000, 1000)] (by simp [bsl])⟩
  have h2 : 0 < s.length := List.length_pos_iff.2 h1
  obtain ⟨r1, hr1, f1⟩ := pickI src a 3 (by omega) (by omega)
  simp [ac_spec_l91Spoil, h1, bsl]
  refine goCall_gen [] [(1000, 1000)] [] [] none f1 (by simp [bsl]) ?_
  simp
  refine goTest_dec (fun h3 => ?_) (fun h3 => ?_)
  · simp [h3]
    exact ⟨_, _, .mk (s) (a + 1) (by simp) (by omega), Ends.mk [] [(1000, 1000)] (by simp [bsl])⟩
  simp [h3]
  obtain ⟨k, hk, f2⟩ := pickI src (a + 1) s.length (by omega) (by omega)
  have hk2 : k < s.length := by omega
  refine goCall_gen [] [(1000, 1000)] [] [] none f2 (by simp [bsl]) ?_
  simp
  obtain ⟨r3, hr3, f3⟩ := pickI src (a + 1 + 1) 4 (by omega) (by omega)
  refine goCall_gen [] [(1000, 1000)] [] [] none f3 (by simp [bsl]) ?_
  simp
  refine goTest_dec (fun h4 => ?_) (fun h4 => ?_)
  · simp [h4]
    exact ⟨by omega, _, _, .mk (s.take k) (a + 1 + 1 + 1) (by simp; omega) (by omega), Ends.mk [] [(1000, 1000)] (by simp [bsl])⟩
  simp [h4]
  refine goTest_dec (fun h5 => ?_) (fun h5 => ?_)
  · simp [h5]
    exact ⟨by omega, _, _, .mk (s ++ [0]) (a + 1 + 1 + 1) (by simp) (by omega), Ends.mk [] [(1000, 1000)] (by simp [bsl])⟩
  simp [h5]
  refine goTest_dec (fun h6 => ?_) (fun h6 => ?_)
  · simp [h6]
    exact ⟨by omega, by omega, by omega, by omega, _, _, .mk (s.take k ++ s.drop (k + 1)) (a + 1 + 1 + 1) (by simp; omega) (by omega), Ends.mk [] [(1000, 1000)] (by simp [bsl])⟩
  simp [h6]
  obtain ⟨r7, hr7, f7⟩ := pickI src (a + 1 + 1 + 1) 256 (by omega) (by omega)
  refine ⟨by omega, goDCall_gen [] [(1000, 1000)] [] [] none f7 (by simp [bsl]) (by simp [bsl]) ?_⟩
  have e7 : IntKind.u8.wrap (r7 : Int) = r7 := wrap_byte (by omega) (by omega)
  simp [bsl, e7]
  exact ⟨by omega, by omega, by omega, by omega, _, _, .mk (s.take k ++ UInt8.ofNat r7 :: s.drop (k + 1)) (a + 1 + 1 + 1 + 1) (by simp; omega) (by omega), Ends.mk [] [(1000, 1000)] (by simp [bsl])⟩

theorem setEl_code {l : List (Int × Int)} {j : Nat} {c : Int} (h : j < l.length) : setEl j 1 [V.int .i64 c] (l.map fV) = (l.set j ((nth l j).1, c)).map fV := by
  unfold setEl
  rw [getD_map h, List.map_set]
  simp [fV, wrEl, setCells]

theorem setEl_rec {l : List (Int × Int)} {j : Nat} {c : Int} (h : j < l.length) : setEl j 0 [V.int .i64 c] (l.map fV) = (l.set j (c, (nth l j).2)).map fV := by
  unfold setEl
  rw [getD_map h, List.map_set]
  simp [fV, wrEl, setCells]

/-- Findings that were drawn. -/
inductive FsR (src : List UInt8) (a k : Int) (n : Nat) : V → List (List V) → Prop
  | mk (l : List (Int × Int)) (b : Int) (h : l.length ≤ n) (hb : a ≤ b ∧ b ≤ a + k) : FsR src a k n (.sl (some 0) 2 (l.map fV)) [[bsl src, .int .i64 b]]
end

section
set_option maxRecDepth 20000
attribute [-simp] List.getD_eq_getElem?_getD

theorem nth_ext {α : Type} [Inhabited α] {a b : List α} (hl : a.length = b.length) (h : ∀ i, i < a.length → nth a i = nth b i) : a = b :=
  List.ext_getElem hl fun i h1 h2 => by rw [← nth_eq h1, ← nth_eq h2]; exact h i h1

theorem nth_all {α : Type} [Inhabited α] {a b : List α} {i : Nat} (h : ∀ k, k < i → nth a k = nth b k) (h2 : nth a i = nth b i) : ∀ k, k < i + 1 → nth a k = nth b k := fun k hk => by
  rcases Nat.lt_succ_iff_lt_or_eq.1 hk with h3 | rfl
  · exact h k h3
  · exact h2

theorem ftext_len (l : List (Int × Int)) : (ftext l).length ≤ 42 * l.length := by
  unfold ftext
  split
  · exact textF_len fun f hf => by have := fOk_range (fsOk_all ‹_› f hf); omega
  · simp

/-- A text that is not long. -/
inductive TextR (n : Nat) : V → List (List V) → Prop
  | mk (t : List UInt8) (h : t.length ≤ n) : TextR n (.str t) []
end

section
set_option maxRecDepth 20000
attribute [-simp] List.getD_eq_getElem?_getD getD_cons'

theorem bytesOf_map : ∀ l : List UInt8, bytesOf (l.map byteV) = some l
  | [] => rfl
  | c :: r => by
    have ih := bytesOf_map r
    have h := c.toNat_lt
    simp [bytesOf, byteOf, byteV, ih]

def hexD (n : Nat) : UInt8 := ([48, 49, 50, 51, 52, 53, 54, 55, 56, 57, 97, 98, 99, 100, 101, 102] : List UInt8).getD n 0
/-- Bytes, two digits each. -/
def hexS (l : List UInt8) : List UInt8 := l.flatMap fun c => [hexD (c.toNat / 16), hexD (c.toNat % 16)]

theorem hexS_len : ∀ l : List UInt8, (hexS l).length = 2 * l.length
  | [] => rfl
  | c :: r => by
    have := hexS_len r
    simp only [hexS, List.flatMap_cons, List.length_append, List.length_cons, List.length_nil] at this ⊢
    omega

theorem hexS_snoc {l : List UInt8} {i : Nat} (h : i < l.length) : hexS (l.take (i + 1)) = hexS (l.take i) ++ [hexD ((nth l i).toNat / 16), hexD ((nth l i).toNat % 16)] := by
  rw [take_nth h]; simp [hexS]

theorem and15 : ∀ c : Fin (2 ^ 8), bitsV .and .u8 (c.val : Int) 15 = ((c.val % 16 : Nat) : Int) := by decide +kernel
end

section
set_option maxRecDepth 20000
attribute [-simp] List.getD_eq_getElem?_getD

def inS (n : Int) : Bool := decide (0 ≤ n) && decide (n < 65536)

theorem l3Ok_ok (n : Int) : Fn Tryz.prog fn_spec_l3Ok [.int .i64 n] [] (.bool (inS n)) [] := by
  refine Fn.of_go ln_spec_l3Ok rfl ?_
  have h : inB n 0 65535 = inS n := by rw [Bool.eq_iff_iff]; simp [inB, inS]; omega
  simp [ac_spec_l3Ok]
  refine goCall_eq (l6In_ok _ _ _) (by simp) ?_
  simp [h]
  exact Ends.mk [] [] (by simp)

theorem serialOk_ok (n : Int) : Fn Tryz.prog fn_impl_serialOk [.int .i64 n] [] (.bool (inS n)) [] := by
  refine Fn.of_go ln_impl_serialOk rfl ?_
  simp [ac_impl_serialOk]
  refine goTest_dec (fun h => ?_) (fun h => ?_) <;> simp [h]
  · exact Ends.mk [] [] (by simp [inS, h])
  · exact Ends.mk [] [] (by simp [inS, h])

structure Msg where
  stream : Int
  ssn : Int
  loose : Bool
  text : List UInt8

def mV (m : Msg) : V := .agg [.int .i64 m.stream, .int .i64 m.ssn, .bool m.loose, .str m.text]

/-- The text of a message. -/
def msgT (m : Msg) : List UInt8 := if inS m.stream && inS m.ssn then decS m.stream.toNat ++ [32] ++ (if m.loose then [45] else decS m.ssn.toNat) ++ [32] ++ hexS m.text else []

theorem SerialAdd_ok (a n : Int) (hn : 0 ≤ n ∧ n < 1000000000000) : Fn Tryz.prog fn_impl_SerialAdd [.int .i64 a, .int .i64 n] [] (.int .i64 (if inS a then (a + n) % 65536 else -1)) [] := by
  refine Fn.of_go ln_impl_SerialAdd rfl ?_
  simp [ac_impl_SerialAdd]
  refine goCall_eq (serialOk_ok a) (by simp) ?_
  simp
  refine goTest_bool (fun h => ?_) (fun h => ?_)
  · simp [h]
    have q1 := h
    simp [inS] at q1
    have e0 : n.tmod 65536 = n % 65536 := Int.tmod_eq_emod_of_nonneg (by omega)
    have e1 : (a + n % 65536).tmod 65536 = (a + n % 65536) % 65536 := Int.tmod_eq_emod_of_nonneg (by omega)
    have e2 : ((a + n % 65536) % 65536 + 65536).tmod 65536 = (a + n) % 65536 := by
      rw [Int.tmod_eq_emod_of_nonneg (by omega)]; omega
    rw [e0, e1]
    refine ⟨by omega, by omega, ?_⟩
    rw [e2]
    exact Ends.mk [] [] (by simp [h])
  · simp [h]
    exact Ends.mk [] [] (by simp [h])

/-- A number that was drawn. -/
inductive IntR (src : List UInt8) (a k : Int) (lo hi : Int) : V → List (List V) → Prop
  | mk (n b : Int) (h : lo ≤ n ∧ n ≤ hi) (hb : a ≤ b ∧ b ≤ a + k) : IntR src a k lo hi (.int .i64 n) [[bsl src, .int .i64 b]]

theorem l91Word_ok (src : List UInt8) (a : Int) (h : 0 ≤ a ∧ a < 100000000) : ∃ R bo, IntR src a 4 (-1) 65791 R bo ∧
    Fn Tryz.prog fn_spec_l91Word [.ptr 1000 0] [[bsl src, .int .i64 a]] R bo := by
  refine Fx.of_go ln_spec_l91Word rfl ?_
  simp [ac_spec_l91Word, bsl]
  refine goPick (n := 12) (a := a) rfl (by omega) (by omega) fun r1 h1 => ?_
  simp
  refine goTest_dec (fun h2 => ?_) (fun h2 => ?_)
  · simp [h2]
    refine goPick (n := 6) (a := a + 1) rfl (by omega) (by omega) fun r2 hr => ?_
    have hr2 : r2 < 6 := by omega
    simp [hr2]
    have h3 : r2 = 0 ∨ r2 = 1 ∨ r2 = 2 ∨ r2 = 3 ∨ r2 = 4 ∨ r2 = 5 := by omega
    rcases h3 with rfl | rfl | rfl | rfl | rfl | rfl
    · simp
      exact ⟨_, _, .mk (-1) (a + 1 + 1) (by omega) (by omega), Ends.mk [] [(1000, 1000)] (by simp [bsl])⟩
    · simp
      exact ⟨_, _, .mk (0) (a + 1 + 1) (by omega) (by omega), Ends.mk [] [(1000, 1000)] (by simp [bsl])⟩
    · simp
      exact ⟨_, _, .mk (65535) (a + 1 + 1) (by omega) (by omega), Ends.mk [] [(1000, 1000)] (by simp [bsl])⟩
    · simp
      exact ⟨_, _, .mk (65536) (a + 1 + 1) (by omega) (by omega), Ends.mk [] [(1000, 1000)] (by simp [bsl])⟩
    · simp
      exact ⟨_, _, .mk (256) (a + 1 + 1) (by omega) (by omega), Ends.mk [] [(1000, 1000)] (by simp [bsl])⟩
    · simp
      exact ⟨_, _, .mk (255) (a + 1 + 1) (by omega) (by omega), Ends.mk [] [(1000, 1000)] (by simp [bsl])⟩
  simp [h2]
  refine goTest_dec (fun h3 => ?_) (fun h3 => ?_)
  · simp [h3]
    refine goPick (n := 6) (a := a + 1) rfl (by omega) (by omega) fun r2 hr => ?_
    simp
    exact ⟨by omega, _, _, .mk (65530 + (r2 : Int)) (a + 1 + 1) (by omega) (by omega), Ends.mk [] [(1000, 1000)] (by simp [bsl])⟩
  simp [h3]
  refine goTest_dec (fun h4 => ?_) (fun h4 => ?_)
  · simp [h4]
    refine goPick (n := 6) (a := a + 1) rfl (by omega) (by omega) fun r2 hr => ?_
    simp
    exact ⟨by omega, _, _, .mk (65530 + (r2 : Int)) (a + 1 + 1) (by omega) (by omega), Ends.mk [] [(1000, 1000)] (by simp [bsl])⟩
  simp [h4]
  refine goTest_dec (fun h5 => ?_) (fun h5 => ?_)
  · simp [h5]
    refine goPick (n := 256) (a := a + 1) rfl (by omega) (by omega) fun r2 hr => ?_
    simp
    refine ⟨by omega, goPick (n := 256) (a := a + 1 + 1) rfl (by omega) (by omega) fun r3 hr3 => ?_⟩
    simp
    exact ⟨by omega, _, _, .mk (256 * (r2 : Int) + (r3 : Int)) (a + 1 + 1 + 1) (by omega) (by omega), Ends.mk [] [(1000, 1000)] (by simp [bsl])⟩
  · simp [h5]
    refine goPick (n := 20) (a := a + 1) rfl (by omega) (by omega) fun r2 hr => ?_
    simp
    exact ⟨_, _, .mk (r2 : Int) (a + 1 + 1) (by omega) (by omega), Ends.mk [] [(1000, 1000)] (by simp [bsl])⟩

theorem l91Bytes_ok (src : List UInt8) (a : Int) (n : Nat) (hn : n ≤ 1000) (h : 0 ≤ a ∧ a < 100000000) : ∃ R bo, StrR src a (1 + 2 * n) n R bo ∧
    Fn Tryz.prog fn_spec_l91Bytes [.ptr 1000 0, .int .i64 n] [[bsl src, .int .i64 a]] R bo := by
  refine Fx.of_go ln_spec_l91Bytes rfl ?_
  simp [ac_spec_l91Bytes, bsl]
  refine ⟨by omega, goPick (a := a) rfl (by omega) (by omega) fun k hk => ?_⟩
  simp
  refine go_loop (fun x : Nat × List UInt8 × Int => { env := [(0, .ptr 1000 0), (5, .sl (some 0) 1 (x.2.1.map byteV)), (6, .int .i64 (k : Nat)), (7, .int .i64 (x.1 : Nat))], loc := [], box := [(1000, [bsl src, .int .i64 x.2.2])], stat := [(0, some (.own x.2.1.length 1))] })
    (fun x => x.1 ≤ k ∧ x.2.1.length = x.1 ∧ a ≤ x.2.2 ∧ x.2.2 ≤ a + 1 + 2 * x.1) (fun x => k - x.1) (0, [], a + 1) ⟨by omega, rfl, by simp; omega, by simp⟩ (Weak.of [(0, some 128, 0, 1)] [(1000, 1000)] (by simp [bsl])) ?_
  rintro ⟨i, l, b⟩ ⟨hi, hl, hb1, hb2⟩
  simp at hi hl hb1 hb2
  simp [bsl]
  refine goTest_dec (fun hlt => ?_) (fun hge => ?_)
  · simp [hlt]
    refine goPick (n := 16) (a := b) rfl (by omega) (by omega) fun r1 h1 => ?_
    simp
    refine goPick (n := 18) (a := b + 1) rfl (by omega) (by omega) fun r2 h2 => ?_
    obtain ⟨p, hp, hp2⟩ : ∃ p : Nat, (r1 : Int) * (r2 : Int) = p ∧ p ≤ 255 := ⟨r1 * r2, by simp, Nat.le_trans (Nat.mul_le_mul (show r1 ≤ 15 by omega) (show r2 ≤ 17 by omega)) (by decide)⟩
    have e5 : IntKind.u8.wrap (p : Int) = p := wrap_byte (by omega) (by omega)
    simp [hp, e5]
    refine ⟨by omega, by simp [roomOk]; omega, by omega, .mk (i + 1, l ++ [UInt8.ofNat p], b + 1 + 1) ⟨by simp; omega, by simp; omega, by simp; omega, by simp; omega⟩ (by simp; omega) (Weak.of [(0, some 0, l.length + 1, 1)] [(1000, 1000)] (by simp [bsl]; omega))⟩
  · simp [hge, bytesOf_map]
    exact ⟨_, _, .mk l b (by omega) (by omega), Ends.mk [] [(1000, 1000)] (by simp [bsl])⟩

/-- A message that was drawn. -/
inductive MsgR : V → List (List V) → Prop
  | mk (m : Msg) (h : m.text.length ≤ 8) (h2 : -1 ≤ m.ssn ∧ m.ssn ≤ 65791) (h3 : -1 ≤ m.stream ∧ m.stream ≤ 65791) : MsgR (mV m) []
end

section
attribute [-simp] List.getD_eq_getElem?_getD

/-- A part of a message. -/
structure Part where
  tsn : Int
  stream : Int
  ssn : Int
  first : Bool
  last : Bool
  loose : Bool
  text : List UInt8
deriving DecidableEq, Inhabited

def Part.cells (d : Part) : List V := [.int .i64 d.tsn, .int .i64 d.stream, .int .i64 d.ssn, .bool d.first, .bool d.last, .bool d.loose, .str d.text]
def Part.v (d : Part) : V := .agg d.cells
def psl (l : List Part) : V := .sl none 7 (l.map Part.v)

structure Chunk where
  kind : Int
  flags : Int
  body : List UInt8
deriving DecidableEq, Inhabited

def Chunk.cells (c : Chunk) : List V := [.int .i64 c.kind, .int .i64 c.flags, .str c.body]
def Chunk.v (c : Chunk) : V := .agg c.cells
def csl (l : List Chunk) : V := .sl none 3 (l.map Chunk.v)

structure Packet where
  src : Int
  dst : Int
  tag : Int
  chunks : List Chunk
deriving DecidableEq, Inhabited

def Packet.cells (p : Packet) : List V := [.int .i64 p.src, .int .i64 p.dst, .int .i64 p.tag, csl p.chunks]
def Packet.v (p : Packet) : V := .agg p.cells

structure Hello where
  tag : Int
  window : Int
  streams : Int
  tsn : Int
deriving DecidableEq, Inhabited

def Hello.cells (x : Hello) : List V := [.int .i64 x.tag, .int .i64 x.window, .int .i64 x.streams, .int .i64 x.tsn]
def Hello.v (x : Hello) : V := .agg x.cells

def gV (g : Int × Int) : V := .agg [.int .i64 g.1, .int .i64 g.2]

structure Sack where
  cum : Int
  gaps : List (Int × Int)
deriving DecidableEq, Inhabited

def Sack.cells (x : Sack) : List V := [.int .i64 x.cum, .sl none 2 (x.gaps.map gV)]
def Sack.v (x : Sack) : V := .agg x.cells

structure Side where
  tag : Int
  streams : Int
  first : Int
  sent : List Part
  acked : Int
deriving DecidableEq, Inhabited

def Side.cells (s : Side) : List V := [.int .i64 s.tag, .int .i64 s.streams, .int .i64 s.first, psl s.sent, .int .i64 s.acked]
def Side.v (s : Side) : V := .agg s.cells
/-- A side whose parts lie in storage of its own. -/
def Side.own (σ : Nat) (s : Side) : List V := [.int .i64 s.tag, .int .i64 s.streams, .int .i64 s.first, .sl (some σ) 7 (s.sent.map Part.v), .int .i64 s.acked]

structure Assoc where
  src : Int
  dst : Int
  state : Int
  byB : Bool
  a : Side
  b : Side
deriving DecidableEq, Inhabited

def Assoc.cells (x : Assoc) : List V := [.int .i64 x.src, .int .i64 x.dst, .int .i64 x.state, .bool x.byB] ++ x.a.cells ++ x.b.cells
def Assoc.v (x : Assoc) : V := .agg x.cells
def Assoc.own (σ τ : Nat) (x : Assoc) : List V := [.int .i64 x.src, .int .i64 x.dst, .int .i64 x.state, .bool x.byB] ++ x.a.own σ ++ x.b.own τ

structure Monitor where
  records : Int
  list : List Assoc
  found : List (Int × Int)
deriving DecidableEq, Inhabited

def Monitor.cells (m : Monitor) : List V := [.int .i64 m.records, .sl none 14 (m.list.map Assoc.v), fsl m.found]
def Monitor.v (m : Monitor) : V := .agg m.cells
end

end Go.Proofs.YtldoekmblpghmaaGreat
