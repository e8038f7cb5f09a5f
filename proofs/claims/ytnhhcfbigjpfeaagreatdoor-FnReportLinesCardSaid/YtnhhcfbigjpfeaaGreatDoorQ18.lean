/-
  The library's functions, by the contracts of the kit's shelf.
  Texts: cutting and numbers.
  Reading findings: the program's function and the reference's do the same.
  The program's FindingsParse.
  The reader of codes, and texts.
  Numbers and findings as texts, by the reference.
  Draws: what is drawn returns, and what it returns is not long.
  Comparing findings, counting lines, and the draw of a text of findings.
  Messages: bytes in two digits each, numbers of a serial kind, and the texts of messages by the program and by the reference.
-/
import Derived.Test.YtnhhcfbigjpfeaaGreatDoorQ17
import Derived.Test.YtnhhcfbigjpfeaaGreatDoorShelf
import Derived.Below
namespace Go.Proofs.YtnhhcfbigjpfeaaGreatDoor
set_option linter.all false

section
open Go.RowKit

/-- A function that changes no memory that was there, and hands back none. -/
theorem Fn.of_below {P : Program} {f : FuncId} {args : List V} {R : V} (hargs : argStat args [] = []) (hR : R.stat = [])
    (h : ∀ (w : World) (γ : Ghost) (vs : List Value), Tb (γ.un w) w → CellsRel [] γ w args vs → Calls P f vs.toArray w fun e w' => ∃ v, e = .returned v ∧ Below w.heap.size w w' ∧ VRel [] γ w' R v) : Fn P f args [] R [] := by
  intro w γ vs hT hH hc
  rw [hargs] at hH hc
  refine (h w γ vs hT hc).mono fun e w' hex => ?_
  obtain ⟨v, rfl, hb, h5⟩ := hex
  have hs : resStat R [] = [] := by unfold resStat; rw [hR]; rfl
  refine ⟨v, γ, rfl, ?_, ?_⟩
  · rw [hs]
    refine ⟨fun d cs hl => ?_, ⟨fun d g hg => hH.bxd.1 d g hg, hH.bxd.2⟩, fun σ top sz q => ?_, fun g x hg => ?_, ⟨hH.av.1, fun g hg => ?_⟩, ?_⟩
    · simp [boxesOf, boxesFrom, lookB] at hl
    · simp [lookS] at q
    · exact ⟨Nat.lt_of_lt_of_le (hH.ow g x hg).1 hb.size, (hH.ow g x hg).2⟩
    · exact ⟨Nat.lt_of_lt_of_le (hH.av.2 g hg).1 hb.size, (hH.av.2 g hg).2⟩
    · exact ⟨hb.os, hb.tape, hb.output, hb.size, fun g hg _ => hb.block g hg, fun g t ⟨c, fr, q⟩ => ⟨c, fr, by rw [hb.block g (Array.getElem?_eq_some_iff.1 q).1]; exact q⟩⟩
  · rw [hs]; exact h5

theorem arg1 {S : Stats} {γ : Ghost} {w : World} {x : V} {vs : List Value} (h : CellsRel S γ w [x] vs) : ∃ v, vs = [v] ∧ VRel S γ w x v := by
  obtain ⟨hl, he⟩ := h
  match vs, hl with
  | [v], _ => exact ⟨v, rfl, he 0 (by simp) (by simp)⟩

theorem Itoa_ok (n : Int) (h0 : -9223372036854775808 ≤ n) (h1 : n ≤ 9223372036854775807) : Fn Tryz.prog fn_strconv_Itoa [.int .i64 n] [] (.str (Lib.itoa n)) [] := by
  refine Fn.of_below rfl rfl fun w γ vs hT hc => ?_
  obtain ⟨v, rfl, hv⟩ := arg1 hc
  obtain rfl := hv.int_inv
  obtain ⟨_, t, fr, hg⟩ := hT.pow10
  have hn : Tryz.prog.globalNamed "internal/strconv.uint64pow10" = some 0 := by kernel_rfl
  have htab : Lib.TabIs Tryz.prog w "internal/strconv.uint64pow10" .u64 Lib.pow10Tab := by
    simp only [Lib.TabIs, World.var?, hn, Option.bind_some, hg]
  refine (Tryz.strconv_Itoa n h0 h1 w htab).mono fun e w' hex => ?_
  obtain ⟨rfl, k, os, rfl⟩ := hex
  refine ⟨_, rfl, ⟨rfl, rfl, rfl, ?_, fun g hg => ?_⟩, .base (.str _ _ rfl)⟩
  · show w.heap.size ≤ (w.heap ++ os).size
    simp
  · show (w.heap ++ os)[g]? = w.heap[g]?
    rw [Array.getElem?_append, if_pos hg]
end

section
set_option maxRecDepth 20000
attribute [-simp] List.getD_eq_getElem?_getD

/-- A text put ahead of the first part. -/
def gl (p : List UInt8) : List (List UInt8) → List (List UInt8)
  | [] => [p]
  | h :: t => (p ++ h) :: t

/-- A text, cut at every byte of a kind. -/
def cutAll (c : UInt8) : List UInt8 → List (List UInt8)
  | [] => [[]]
  | x :: r => if x = c then [] :: cutAll c r else gl [x] (cutAll c r)

theorem cutAll_ne (c : UInt8) (l : List UInt8) : cutAll c l ≠ [] := by
  cases l with
  | nil => simp [cutAll]
  | cons x r => simp only [cutAll]; split; simp; cases cutAll c r <;> simp [gl]

theorem drop_nth {α : Type} [Inhabited α] {l : List α} {i : Nat} (h : i < l.length) : l.drop i = nth l i :: l.drop (i + 1) := by
  rw [nth_eq h]; exact List.drop_eq_getElem_cons h

theorem idx_nth {l : List UInt8} {i : Nat} (h : i < l.length) : l.getD i 0 = nth l i := getD_nth h

def dig (c : UInt8) : Bool := 48 ≤ c.toNat && c.toNat ≤ 57

/-- The number of decimal digits. -/
def decN (l : List UInt8) : Nat := l.foldl (fun n c => 10 * n + (c.toNat - 48)) 0

def smallOk (l : List UInt8) : Bool := 1 ≤ l.length && l.length ≤ 3 && (l.length == 1 || (l.getD 0 0).toNat != 48) && l.all dig

def numS (l : List UInt8) : Int := if smallOk l then decN l else -1
end

section
set_option maxRecDepth 20000
attribute [-simp] List.getD_eq_getElem?_getD

def mapO {α β : Type} (f : α → Option β) : List α → Option (List β)
  | [] => some []
  | x :: r => match f x, mapO f r with
    | some y, some l => some (y :: l)
    | _, _ => none

theorem mapO_len {α β : Type} {f : α → Option β} : ∀ {l : List α} {fs : List β}, mapO f l = some fs → fs.length = l.length
  | [], fs, h => by simp [mapO] at h; subst h; rfl
  | z :: r, fs, h => by
    simp only [mapO] at h
    split at h
    · rename_i a b e1 e2
      obtain rfl := Option.some.inj h
      simp [mapO_len e2]
    · cases h

def lineF (s : List UInt8) : Option (Int × Int) :=
  match cutAll 32 s with
  | [a, b] => some (numS a, numS b)
  | _ => none

/-- The findings of a text. -/
def parseF (text : List UInt8) : Option (List (Int × Int)) :=
  match mapO lineF (cutAll 10 text).dropLast with
  | some fs => if (cutAll 10 text).getLast? = some [] ∧ fsOk 60 fs = true then some fs else none
  | none => none

theorem lineF_two {s : List UInt8} {fs : Int × Int} : lineF s = some fs ↔ ∃ a b, cutAll 32 s = [a, b] ∧ fs = (numS a, numS b) := by
  unfold lineF
  split
  · rename_i a b h
    simp only [h, Option.some.injEq, List.cons.injEq, and_true]
    exact ⟨fun e => ⟨a, b, ⟨rfl, rfl⟩, e.symm⟩, fun ⟨a', b', ⟨e1, e2⟩, e⟩ => by rw [e, e1, e2]⟩
  · rename_i h; simp; intro a b e; exact absurd e (h a b)

end

section
set_option maxRecDepth 20000
attribute [-simp] List.getD_eq_getElem?_getD

theorem cutAll_notin {c : UInt8} : ∀ {s : List UInt8}, c ∉ s → cutAll c s = [s]
  | [], _ => rfl
  | x :: r, h => by
    simp at h
    simp [cutAll, Ne.symm h.1, cutAll_notin h.2, gl]

end

section
set_option maxRecDepth 20000

theorem xor_nonneg {x y : Int} (hx : 0 ≤ x) (hx2 : x < 2 ^ 62) (hy : 0 ≤ y) (hy2 : y < 2 ^ 62) : 0 ≤ bitsV .xor .i64 x y := by
  obtain ⟨a, rfl⟩ := Int.eq_ofNat_of_zero_le hx
  obtain ⟨b, rfl⟩ := Int.eq_ofNat_of_zero_le hy
  have ha : a < 2 ^ 62 := by omega
  have hb : b < 2 ^ 62 := by omega
  have hab := Nat.xor_lt_two_pow ha hb
  have e1 : (BitVec.ofInt 64 (a : Int)).toNat = a := by
    simp [BitVec.toNat_ofInt]; omega
  have e2 : (BitVec.ofInt 64 (b : Int)).toNat = b := by
    simp [BitVec.toNat_ofInt]; omega
  have e : (BitVec.ofInt 64 (a : Int) ^^^ BitVec.ofInt 64 (b : Int)).toNat = a ^^^ b := by
    rw [BitVec.toNat_xor, e1, e2]
  show 0 ≤ IntKind.i64.wrap ((BitVec.ofInt 64 (a : Int) ^^^ BitVec.ofInt 64 (b : Int)).toNat : Int)
  rw [e]
  rw [wrap_i64 (by omega) (by omega)]
  omega

set_option maxRecDepth 20000 in
theorem pick_ok (src : List UInt8) (at_ : Nat) (n : Int) (h : at_ < 1000000000) (hn : n < 1000000) : ∃ r : Int, 0 ≤ r ∧ (r < n ∨ (n < 1 ∧ r = 0) ∨ r = 0) ∧
    Fn Tryz.prog fn_spec_l6Rd_pick [.ptr 1000 0, .int .i64 n] [[bsl src, .int .i64 at_]] (.int .i64 r) [[bsl src, .int .i64 (at_ + 1)]] := by
  by_cases h1 : n < 1
  · refine ⟨0, by omega, by omega, Fn.of_go ln_spec_l6Rd_pick rfl ?_⟩
    simp [ac_spec_l6Rd_pick, bsl, h1]
    exact ⟨by omega, .mk [] [(1000, 1000)] (by simp)⟩
  by_cases h2 : src.length = 0
  · refine ⟨0, by omega, by omega, Fn.of_go ln_spec_l6Rd_pick rfl ?_⟩
    simp [ac_spec_l6Rd_pick, bsl, h1, h2]
    exact ⟨by omega, .mk [] [(1000, 1000)] (by simp)⟩
  have h2' : ¬ (src.length : Int) = 0 := by omega
  by_cases h3 : at_ < src.length
  · refine ⟨((src.getD at_ 0).toNat : Int).tmod n, ?_, ?_, Fn.of_go ln_spec_l6Rd_pick rfl ?_⟩
    · exact Int.tmod_nonneg _ (Int.natCast_nonneg _)
    · exact .inl (Int.tmod_lt_of_pos _ (by omega))
    · have e : (at_ : Int) + 1 - 1 = at_ := by omega
      have h3' : (at_ : Int) < src.length := by omega
      simp [ac_spec_l6Rd_pick, bsl, h1, h2, h2', e, h3, h3', wrap_u8]
      exact ⟨by omega, by omega, by omega, .mk [] [(1000, 1000)] (by simp)⟩
  have h3' : ¬ (at_ : Int) < src.length := by omega
  have e : (at_ : Int) + 1 - 1 = at_ := by omega
  have hpos : 0 < src.length := by omega
  have q1 : (at_ : Int).tmod src.length = ((at_ % src.length : Nat) : Int) := rfl
  have q2 : ((at_ : Int) * 7 + 3).tmod src.length = (((at_ * 7 + 3) % src.length : Nat) : Int) := rfl
  have q3 : (at_ : Int).tdiv src.length = ((at_ / src.length : Nat) : Int) := rfl
  have m1 : at_ % src.length < src.length := Nat.mod_lt _ hpos
  have m2 : (at_ * 7 + 3) % src.length < src.length := Nat.mod_lt _ hpos
  have m3 : at_ / src.length ≤ at_ := Nat.div_le_self _ _
  have g0 : (0 : Int) ≤ (at_ : Int) / src.length := Int.ediv_nonneg (by omega) (by omega)
  have u1 := (src[at_ % src.length]).toNat_lt
  have u2 := (src[(at_ * 7 + 3) % src.length]).toNat_lt
  refine ⟨(bitsV .xor .i64 ((src[at_ % src.length].toNat : Int) * 131 + (src[(at_ * 7 + 3) % src.length].toNat : Int) * 1117 + at_ * 29 + ((at_ / src.length : Nat) : Int) * 53)
    (((src[at_ % src.length].toNat : Int) * 131 + (src[(at_ * 7 + 3) % src.length].toNat : Int) * 1117 + at_ * 29 + ((at_ / src.length : Nat) : Int) * 53).tdiv 64)).tmod n, ?_, ?_, Fn.of_go ln_spec_l6Rd_pick rfl ?_⟩
  · refine Int.tmod_nonneg _ (xor_nonneg (by omega) (by omega) (Int.tdiv_nonneg (by omega) (by omega)) ?_)
    rw [Int.tdiv_eq_ediv_of_nonneg (by omega)]
    omega
  · exact .inl (Int.tmod_lt_of_pos _ (by omega))
  · have m1' : ((at_ % src.length : Nat) : Int) < src.length := by omega
    have m2' : (((at_ * 7 + 3) % src.length : Nat) : Int) < src.length := by omega
    simp [ac_spec_l6Rd_pick, bsl, h1, h2, h2', e, h3, h3', wrap_u8, q1, q2, q3, m1, m2, m1', m2', -Int.natCast_emod, -Int.natCast_ediv]
    rw [Int.tdiv_eq_ediv_of_nonneg (by omega)]
    refine ⟨by omega, by omega, by omega, by omega, by omega, by omega, by omega, by omega, by omega, by omega, by omega, by omega, by omega, by omega, .mk [] [(1000, 1000)] (by simp)⟩

theorem open_ok (l : List UInt8) : Fn Tryz.prog fn_spec_l6Open [bsl l] [] (.ptr 1000 0) [[bsl (l.take 2000), .int .i64 0]] := by
  refine Fn.of_go ln_spec_l6Open rfl ?_
  by_cases h : 2000 < l.length
  · have h' : (2000 : Int) < l.length := by omega
    simp [ac_spec_l6Open, bsl, h, h', fillV, partsOk]
    exact ⟨by omega, .mk [] [(1000, 10)] (by simp)⟩
  · have h' : ¬ (2000 : Int) < l.length := by omega
    simp [ac_spec_l6Open, bsl, h, h', fillV, partsOk]
    exact .mk [] [(1000, 10)] (by simp; rw [List.take_of_length_le]; simp; omega)
end

section
set_option maxRecDepth 20000
attribute [-simp] List.getD_eq_getElem?_getD

/-- A number in decimal digits. -/
def decS (n : Nat) : List UInt8 :=
  if n < 10 then [UInt8.ofNat (48 + n)] else decS (n / 10) ++ [UInt8.ofNat (48 + n % 10)]
termination_by n

theorem decS_len : ∀ (k n : Nat), n < 10 ^ k → (decS n).length ≤ k + 1
  | 0, n, h => by
    have : n = 0 := by simpa using h
    subst this
    unfold decS; simp
  | k + 1, n, h => by
    unfold decS
    split
    · simp
    · have := decS_len k (n / 10) (by rw [Nat.div_lt_iff_lt_mul (by omega), ← Nat.pow_succ]; exact h)
      simp; omega

theorem decPos_ok (n : Nat) (h : n < 10 ^ 19) (h2 : n < 9223372036854775808) : Fn Tryz.prog fn_spec_l6Dec [.int .i64 n] [] (.str (decS n)) [] := by
  induction n using Nat.strongRecOn with
  | _ n ih =>
    refine Fn.of_go ln_spec_l6Dec rfl ?_
    have e1 : ¬ (n : Int) < -9223372036854775807 := by omega
    have e2 : ¬ (n : Int) < 0 := by omega
    by_cases h3 : n < 10
    · have e3 : (n : Int) < 10 := by omega
      have e4 : decS n = [UInt8.ofNat (48 + n)] := by unfold decS; rw [if_pos h3]
      have e5 : IntKind.u8.wrap (48 + (n : Int)) = 48 + n := wrap_byte (by omega) (by omega)
      have e6 : (48 + (n : Int)).toNat = 48 + n := by omega
      simp [ac_spec_l6Dec, e1, e2, e3, e5, e6, e4]
      exact ⟨by omega, .mk [] [] (by simp)⟩
    · have e3 : ¬ (n : Int) < 10 := by omega
      have e4 : decS n = decS (n / 10) ++ [UInt8.ofNat (48 + n % 10)] := by rw [decS]; rw [if_neg h3]
      have e5 : IntKind.u8.wrap (48 + (n : Int) % 10) = 48 + (n : Int) % 10 := wrap_byte (by omega) (by omega)
      have e6 : (48 + (n : Int) % 10).toNat = 48 + n % 10 := by omega
      have ht : (n : Int).tmod 10 = (n : Int) % 10 := Int.tmod_eq_emod_of_nonneg (by omega)
      have hl := decS_len 18 (n / 10) (by omega)
      simp [ac_spec_l6Dec, e1, e2, e3]
      refine ⟨by omega, goDCall_eq (ih (n / 10) (by omega) (by omega) (by omega)) (by simp) (by simp) ?_⟩
      simp [e5, e6, e4, ht]
      exact ⟨by omega, by omega, .mk [] [] (by simp)⟩

def lineT (f : Int × Int) : List UInt8 := decS f.1.toNat ++ [32] ++ decS f.2.toNat ++ [10]
/-- The text of findings. -/
def textF (l : List (Int × Int)) : List UInt8 := l.flatMap lineT

theorem decS_len20 {n : Nat} (h : n < 10 ^ 19) : (decS n).length ≤ 20 := decS_len 19 n h

theorem textF_len : ∀ {l : List (Int × Int)}, (∀ f ∈ l, f.1 < 1000000000000 ∧ f.2 < 1000000000000) → (textF l).length ≤ 42 * l.length
  | [], _ => by simp [textF]
  | f :: r, h => by
    have ih := textF_len (l := r) fun g hg => h g (List.mem_cons_of_mem _ hg)
    obtain ⟨h1, h2⟩ := h f List.mem_cons_self
    have a1 := decS_len20 (n := f.1.toNat) (by omega)
    have a2 := decS_len20 (n := f.2.toNat) (by omega)
    simp only [textF, List.flatMap_cons, lineT, List.length_append, List.length_cons, List.length_nil] at ih ⊢
    omega

theorem textF_snoc {l : List (Int × Int)} {i : Nat} (h : i < l.length) : textF (l.take (i + 1)) = textF (l.take i) ++ lineT (nth l i) := by
  rw [take_nth h]; simp [textF]

theorem l42Text_ok (l : List (Int × Int)) (hl : l.length ≤ 1100000) (hb : ∀ f ∈ l, (0 ≤ f.1 ∧ f.1 < 1000000000000) ∧ 0 ≤ f.2 ∧ f.2 < 1000000000000) : Fn Tryz.prog fn_spec_l42Text [fsl l] [] (.str (textF l)) [] := by
  refine Fn.of_go ln_spec_l42Text rfl ?_
  simp [ac_spec_l42Text, fsl]
  refine go_loop (fun i => { env := [(0, fsl l), (3, .str (textF (l.take i))), (4, .int .i64 (i : Nat))], loc := [], box := [], stat := [] }) (fun i => i ≤ l.length) (fun i => l.length - i) 0 (by omega) (Weak.of [] [] (by simp [fsl, textF])) ?_
  intro i hi
  simp [fsl]
  refine goTest_dec (fun hlt => ?_) (fun hge => ?_)
  · obtain ⟨h1, h2⟩ := hb _ (nth_mem hlt)
    have h3 := textF_len (l := l.take i) fun f hf => ⟨(hb f (List.mem_of_mem_take hf)).1.2, (hb f (List.mem_of_mem_take hf)).2.2⟩
    simp at h3
    have hsn := textF_snoc hlt
    obtain ⟨a, ha⟩ := Int.eq_ofNat_of_zero_le h1.1
    obtain ⟨b, hb'⟩ := Int.eq_ofNat_of_zero_le h2.1
    have a1 := decS_len20 (n := a) (by omega)
    have a2 := decS_len20 (n := b) (by omega)
    simp [hlt, fV]
    rw [ha]
    refine goDCall_eq (decPos_ok a (by omega) (by omega)) (by simp) (by simp) ?_
    simp [hlt, fV]
    rw [hb']
    refine ⟨by omega, by omega, goDCall_eq (decPos_ok b (by omega) (by omega)) (by simp) (by simp) ?_⟩
    simp
    refine ⟨by omega, by omega, by omega, .mk (i + 1) hlt (by omega) (Weak.of [] [] (by simp [hsn, lineT, ha, hb']))⟩
  · obtain rfl : i = l.length := by omega
    simp
    exact Ends.mk [] [] (by simp)

theorem fOk_range {n : Int} {f : Int × Int} (h : fOk n f = true) : (0 ≤ f.1 ∧ f.1 < n) ∧ 0 ≤ f.2 ∧ f.2 < 106 := by
  rw [fOk_eq] at h; simp at h; omega

theorem fsOk_all {n : Int} {l : List (Int × Int)} (h : fsOk n l = true) : ∀ f ∈ l, fOk n f = true := fun f hf => by
  obtain ⟨i, hi, rfl⟩ := List.getElem_of_mem hf
  have := allTo_iff.1 h i hi
  simp only [fsP, Bool.and_eq_true, nth_eq hi] at this
  exact this.1

/-- What FindingsText returns. -/
def ftext (l : List (Int × Int)) : List UInt8 := if fsOk 60 l then textF l else []
end

section
set_option maxRecDepth 20000
attribute [-simp] List.getD_eq_getElem?_getD

theorem pickI (src : List UInt8) (a n : Int) (h : 0 ≤ a ∧ a < 1000000000) (hn : 0 < n ∧ n < 1000000) : ∃ r : Nat, (r : Int) < n ∧
    Fn Tryz.prog fn_spec_l6Rd_pick [.ptr 1000 0, .int .i64 n] [[bsl src, .int .i64 a]] (.int .i64 r) [[bsl src, .int .i64 (a + 1)]] := by
  obtain ⟨k, rfl⟩ := Int.eq_ofNat_of_zero_le h.1
  obtain ⟨r, h1, h2, h3⟩ := pick_ok src k n (by omega) (by omega)
  obtain ⟨i, rfl⟩ := Int.eq_ofNat_of_zero_le h1
  exact ⟨i, by omega, h3⟩

/-- A number is drawn. -/
theorem goPick {st : St} {p : Nat} {src : List UInt8} {a n : Int} {d : AD} {rs : List AOp} {k : List It} {Q : AE → St → Prop} (hb : lookB st.box p = some [bsl src, .int .i64 a]) (ha : 0 ≤ a ∧ a < 1000000000) (hn : 0 < n ∧ n < 1000000)
    (h : ∀ r : Nat, (r : Int) < n → go Tryz.prog (.ops rs :: k) Q .normal (Delta.apply { val := .int .i64 r, nb := [(p, [.sl none 1 (src.map byteV), .int .i64 (a + 1)])] } st d)) : goCall Tryz.prog fn_spec_l6Rd_pick [.ptr p 0, .int .i64 n] d rs k Q st := by
  obtain ⟨r, hr, f⟩ := pickI src a n ha hn
  refine goCall_gen [] [(1000, p)] [] [] none f (by simp [bsl, hb]) ?_
  have := h r hr
  simpa [bsl] using this

def ssl (l : List (List UInt8)) : V := .sl none 1 (l.map V.str)

theorem of_ok (src : List UInt8) (a : Int) (xs : List (List UInt8)) (h : 0 ≤ a ∧ a < 1000000000) (hx : 0 < xs.length) (hx2 : xs.length < 1000000) : ∃ s ∈ xs,
    Fn Tryz.prog fn_spec_l6Rd_of [.ptr 1000 0, ssl xs] [[bsl src, .int .i64 a]] (.str s) [[bsl src, .int .i64 (a + 1)]] := by
  obtain ⟨r, hr, hf⟩ := pickI src a xs.length h (by omega)
  have hr2 : r < xs.length := by omega
  refine ⟨nth xs r, nth_mem hr2, Fn.of_go ln_spec_l6Rd_of rfl ?_⟩
  simp [ac_spec_l6Rd_of, ssl, bsl]
  refine goCall_gen [] [(1000, 1000)] [] [] none hf (by simp [bsl]) ?_
  simp [bsl, hr2]
  exact Ends.mk [] [(1000, 1000)] (by simp)

/-- A text that was drawn. -/
inductive StrR (src : List UInt8) (a k : Int) (n : Nat) : V → List (List V) → Prop
  | mk (t : List UInt8) (b : Int) (h : t.length ≤ n) (hb : a ≤ b ∧ b ≤ a + k) : StrR src a k n (.str t) [[bsl src, .int .i64 b]]

theorem spoil_ok (src : List UInt8) (a : Int) (s : List UInt8) (h : 0 ≤ a ∧ a < 100000000) (hs : s.length < 100000) : ∃ R bo, StrR src a 4 (s.length + 1) R bo ∧
    Fn Tryz.prog fn_spec_l91Spoil [.ptr 1000 0, .str s] [[bsl src, .int .i64 a]] R bo := by
  refine Fx.of_go ln_spec_l91Spoil rfl ?_
  by_cases h1 : s = []
  · simp [ac_spec_l91Spoil, h1, bsl]
    exact ⟨_, _, .mk ([]) (a) (by simp) (by omega), Ends.mk [] [(1000, 1000)] (by simp [bsl])⟩
  have h2 : 0 < s.length := List.length_pos_iff.2 h1
  obtain ⟨r1, hr1, f1⟩ := pickI src a 3 (by omega) (by omega)
  simp [ac_spec_l91Spoil, h1, bsl]
  refine goCall_gen [] [(1000, 1000)] [] [] none f1 (by simp [bsl]) ?_
  simp
  refine goTest_dec (fun h3 => ?_) (fun h3 => ?_)
  · simp [h3]
    exact ⟨_, _, .mk (s) (a + 1) (by simp) (by omega), Ends.mk [] [(1000, 1000)] (by simp [bsl])⟩
  simp [h3]
  obtain ⟨k, hk, f2⟩ := pickI src (a + 1) s.length (by omega) (by omega)
  have hk2 : k < s.length := by omega
  refine goCall_gen [] [(1000, 1000)] [] [] none f2 (by simp [bsl]) ?_
  simp
  obtain ⟨r3, hr3, f3⟩ := pickI src (a + 1 + 1) 4 (by omega) (by omega)
  refine goCall_gen [] [(1000, 1000)] [] [] none f3 (by simp [bsl]) ?_
  simp
  refine goTest_dec (fun h4 => ?_) (fun h4 => ?_)
  · simp [h4]
    exact ⟨by omega, _, _, .mk (s.take k) (a + 1 + 1 + 1) (by simp; omega) (by omega), Ends.mk [] [(1000, 1000)] (by simp [bsl])⟩
  simp [h4]
  refine goTest_dec (fun h5 => ?_) (fun h5 => ?_)
  · simp [h5]
    exact ⟨by omega, _, _, .mk (s ++ [0]) (a + 1 + 1 + 1) (by simp) (by omega), Ends.mk [] [(1000, 1000)] (by simp [bsl])⟩
  simp [h5]
  refine goTest_dec (fun h6 => ?_) (fun h6 => ?_)
  · simp [h6]
    exact ⟨by omega, by omega, by omega, by omega, _, _, .mk (s.take k ++ s.drop (k + 1)) (a + 1 + 1 + 1) (by simp; omega) (by omega), Ends.mk [] [(1000, 1000)] (by simp [bsl])⟩
  simp [h6]
  obtain ⟨r7, hr7, f7⟩ := pickI src (a + 1 + 1 + 1) 256 (by omega) (by omega)
  refine ⟨by omega, goDCall_gen [] [(1000, 1000)] [] [] none f7 (by simp [bsl]) (by simp [bsl]) ?_⟩
  have e7 : IntKind.u8.wrap (r7 : Int) = r7 := wrap_byte (by omega) (by omega)
  simp [bsl, e7]
  exact ⟨by omega, by omega, by omega, by omega, _, _, .mk (s.take k ++ UInt8.ofNat r7 :: s.drop (k + 1)) (a + 1 + 1 + 1 + 1) (by simp; omega) (by omega), Ends.mk [] [(1000, 1000)] (by simp [bsl])⟩

/-- Findings that were drawn. -/
inductive FsR (src : List UInt8) (a k : Int) (n : Nat) : V → List (List V) → Prop
  | mk (l : List (Int × Int)) (b : Int) (h : l.length ≤ n) (hb : a ≤ b ∧ b ≤ a + k) : FsR src a k n (.sl (some 0) 2 (l.map fV)) [[bsl src, .int .i64 b]]
end

section
set_option maxRecDepth 20000
attribute [-simp] List.getD_eq_getElem?_getD

theorem lines_ok (s : List UInt8) (hs : s.length ≤ 1000000000000) : Fn Tryz.prog fn_laws_lines [.str s] [] (.int .i64 (s.count 10 : Nat)) [] := by
  refine Fn.of_go ln_laws_lines rfl ?_
  simp [ac_laws_lines]
  refine go_loop (fun i => { env := [(0, .str s), (3, .int .i64 ((s.take i).count 10 : Nat)), (4, .int .i64 (i : Nat))], loc := [], box := [], stat := [] }) (fun i => i ≤ s.length) (fun i => s.length - i) 0 (by omega) (Weak.of [] [] (by simp)) ?_
  intro i hi
  simp
  refine goTest_dec (fun hlt => ?_) (fun hge => ?_)
  · have hn := idx_nth hlt
    have hc : (s.take i).count 10 ≤ i := Nat.le_trans List.count_le_length (by simp; omega)
    have hsn := take_nth hlt
    simp [hlt, hn]
    refine goTest_dec (fun h1 => ?_) (fun h1 => ?_)
    · have h2 : nth s i = 10 := UInt8.toNat_inj.1 h1
      simp [h1]
      exact ⟨by omega, by omega, .mk (i + 1) hlt (by omega) (Weak.of [] [] (by simp [hsn, h2]))⟩
    · have h2 : nth s i ≠ 10 := fun e => h1 (by rw [e]; rfl)
      simp [h1]
      exact ⟨by omega, .mk (i + 1) hlt (by omega) (Weak.of [] [] (by simp [hsn, List.count_append, List.count_cons, h2]))⟩
  · obtain rfl : i = s.length := by omega
    simp
    exact Ends.mk [] [] (by simp)

/-- A text that is not long. -/
inductive TextR (n : Nat) : V → List (List V) → Prop
  | mk (t : List UInt8) (h : t.length ≤ n) : TextR n (.str t) []
end

section
set_option maxRecDepth 20000
attribute [-simp] List.getD_eq_getElem?_getD getD_cons'

theorem bytesOf_map : ∀ l : List UInt8, bytesOf (l.map byteV) = some l
  | [] => rfl
  | c :: r => by
    have ih := bytesOf_map r
    have h := c.toNat_lt
    simp [bytesOf, byteOf, byteV, ih]

def hexD (n : Nat) : UInt8 := ([48, 49, 50, 51, 52, 53, 54, 55, 56, 57, 97, 98, 99, 100, 101, 102] : List UInt8).getD n 0
/-- Bytes, two digits each. -/
def hexS (l : List UInt8) : List UInt8 := l.flatMap fun c => [hexD (c.toNat / 16), hexD (c.toNat % 16)]

theorem hexS_len : ∀ l : List UInt8, (hexS l).length = 2 * l.length
  | [] => rfl
  | c :: r => by
    have := hexS_len r
    simp only [hexS, List.flatMap_cons, List.length_append, List.length_cons, List.length_nil] at this ⊢
    omega

theorem hexS_snoc {l : List UInt8} {i : Nat} (h : i < l.length) : hexS (l.take (i + 1)) = hexS (l.take i) ++ [hexD ((nth l i).toNat / 16), hexD ((nth l i).toNat % 16)] := by
  rw [take_nth h]; simp [hexS]

theorem l1Hex_ok (s : List UInt8) (hs : s.length ≤ 100000000000) : Fn Tryz.prog fn_spec_l1Hex [.str s] [] (.str (hexS s)) [] := by
  refine Fn.of_go ln_spec_l1Hex rfl ?_
  simp [ac_spec_l1Hex]
  refine go_loop (fun i => { env := [(0, .str s), (3, .sl (some 0) 1 ((hexS (s.take i)).map byteV)), (4, .int .i64 (i : Nat))], loc := [], box := [], stat := [(0, some (.own (hexS (s.take i)).length 1))] }) (fun i => i ≤ s.length) (fun i => s.length - i) 0 (by omega) (Weak.of [(0, some 80, 0, 1)] [] (by simp [hexS])) ?_
  intro i hi
  simp
  refine goTest_dec (fun hlt => ?_) (fun hge => ?_)
  · have hn := idx_nth hlt
    have hsn := hexS_snoc hlt
    have hlen := hexS_len (s.take i)
    have hu := (nth s i).toNat_lt
    have e0 : (((nth s i).toNat : Int)).tmod 16 = ((nth s i).toNat : Int) % 16 := Int.tmod_eq_emod_of_nonneg (by omega)
    have e1 : (((nth s i).toNat : Int) / 16).toNat = (nth s i).toNat / 16 := by omega
    have e2 : (((nth s i).toNat : Int) % 16).toNat = (nth s i).toNat % 16 := by omega
    simp [hlt, hn, e0, e1, e2]
    refine ⟨by omega, by omega, by omega, by simp [roomOk]; simp at hlen; omega, by omega, .mk (i + 1) hlt (by omega) (Weak.of [(0, some 0, (hexS (s.take i)).length + 2, 1)] [] (by simp [hsn, hexD]))⟩
  · obtain rfl : i = s.length := by omega
    simp [bytesOf_map]
    exact Ends.mk [] [] (by simp)

theorem and15 : ∀ c : Fin (2 ^ 8), bitsV .and .u8 (c.val : Int) 15 = ((c.val % 16 : Nat) : Int) := by decide +kernel

theorem hexOf_ok (s : List UInt8) (hs : s.length ≤ 100000000000) : Fn Tryz.prog fn_impl_hexOf [.str s] [] (.str (hexS s)) [] := by
  refine Fn.of_go ln_impl_hexOf rfl ?_
  simp [ac_impl_hexOf]
  refine ⟨by omega, ⟨by omega, by unfold roomOk; omega⟩, ?_⟩
  refine go_loop (fun i => { env := [(0, .str s), (3, .sl (some 0) 1 ((hexS (s.take i)).map byteV)), (4, .int .i64 (i : Nat))], loc := [], box := [], stat := [(0, some (.own (hexS (s.take i)).length 1))] }) (fun i => i ≤ s.length) (fun i => s.length - i) 0 (by omega) (Weak.of [(0, some 128, 0, 1)] [] (by simp [hexS])) ?_
  intro i hi
  simp
  refine goTest_dec (fun hlt => ?_) (fun hge => ?_)
  · have hn := idx_nth hlt
    have hsn := hexS_snoc hlt
    have hlen := hexS_len (s.take i)
    have hu := (nth s i).toNat_lt
    have e0 : (((nth s i).toNat : Int)).fdiv 16 = (((nth s i).toNat / 16 : Nat) : Int) := Int.fdiv_eq_ediv_of_nonneg _ (by omega)
    have e1 : bitsV .and .u8 ((nth s i).toNat : Int) 15 = (((nth s i).toNat % 16 : Nat) : Int) := and15 ⟨_, hu⟩
    simp [hlt, hn, e0, e1, -Int.natCast_ediv, -Int.natCast_emod]
    refine ⟨by decide, by omega, by omega, by simp [roomOk]; simp at hlen; omega, by omega, .mk (i + 1) hlt (by omega) (Weak.of [(0, some 0, (hexS (s.take i)).length + 2, 1)] [] (by simp [hsn, hexD]))⟩
  · obtain rfl : i = s.length := by omega
    simp [bytesOf_map]
    exact Ends.mk [] [] (by simp)
end

end Go.Proofs.YtnhhcfbigjpfeaaGreatDoor
