/-
  The library's functions, by the contracts of the kit's shelf.
  Texts: cutting and numbers.
  Reading findings: the program's function and the reference's do the same.
  The program's FindingsParse.
  The reader of codes, and texts.
  Numbers and findings as texts, by the reference.
  Draws: what is drawn returns, and what it returns is not long.
  Comparing findings, counting lines, and the draw of a text of findings.
  Messages: bytes in two digits each, numbers of a serial kind, and the texts of messages by the program and by the reference.
  Messages: numbers of a serial kind, and the texts of messages by the program and by the reference.
  Chunks, parts, packets and associations, as plain data and as values.
-/
import Derived.Test.YtnhhcfbigjpfeaaDoorQ17
import Derived.Test.YtnhhcfbigjpfeaaDoorShelf
import Derived.Below
namespace Go.Proofs.YtnhhcfbigjpfeaaDoor
set_option linter.all false

section
open Go.RowKit

/-- A function that changes no memory that was there, and hands back none. -/
theorem Fn.of_below {P : Program} {f : FuncId} {args : List V} {R : V} (hargs : argStat args [] = []) (hR : R.stat = [])
    (h : ∀ (w : World) (γ : Ghost) (vs : List Value), Tb (γ.un w) w → CellsRel [] γ w args vs → Calls P f vs.toArray w fun e w' => ∃ v, e = .returned v ∧ Below w.heap.size w w' ∧ VRel [] γ w' R v) : Fn P f args [] R [] := by
  intro w γ vs hT hH hc
  rw [hargs] at hH hc
  refine (h w γ vs hT hc).mono fun e w' hex => ?_
  obtain ⟨v, rfl, hb, h5⟩ := hex
  have hs : resStat R [] = [] := by unfold resStat; rw [hR]; rfl
  refine ⟨v, γ, rfl, ?_, ?_⟩
  · rw [hs]
    refine ⟨fun d cs hl => ?_, ⟨fun d g hg => hH.bxd.1 d g hg, hH.bxd.2⟩, fun σ top sz q => ?_, fun g x hg => ?_, ⟨hH.av.1, fun g hg => ?_⟩, ?_⟩
    · simp [boxesOf, boxesFrom, lookB] at hl
    · simp [lookS] at q
    · exact ⟨Nat.lt_of_lt_of_le (hH.ow g x hg).1 hb.size, (hH.ow g x hg).2⟩
    · exact ⟨Nat.lt_of_lt_of_le (hH.av.2 g hg).1 hb.size, (hH.av.2 g hg).2⟩
    · exact ⟨hb.os, hb.tape, hb.output, hb.size, fun g hg _ => hb.block g hg, fun g t ⟨c, fr, q⟩ => ⟨c, fr, by rw [hb.block g (Array.getElem?_eq_some_iff.1 q).1]; exact q⟩⟩
  · rw [hs]; exact h5

theorem Below.of_heap {w w' : World} (h1 : w'.heap = w.heap) (h2 : w'.os = w.os) (h3 : w'.tape = w.tape) (h4 : w'.output = w.output) : Below w.heap.size w w' :=
  ⟨h2, h3, h4, by rw [h1]; exact Nat.le_refl _, fun g _ => by rw [h1]⟩

theorem arg1 {S : Stats} {γ : Ghost} {w : World} {x : V} {vs : List Value} (h : CellsRel S γ w [x] vs) : ∃ v, vs = [v] ∧ VRel S γ w x v := by
  obtain ⟨hl, he⟩ := h
  match vs, hl with
  | [v], _ => exact ⟨v, rfl, he 0 (by simp) (by simp)⟩

theorem arg2 {S : Stats} {γ : Ghost} {w : World} {x y : V} {vs : List Value} (h : CellsRel S γ w [x, y] vs) : ∃ v u, vs = [v, u] ∧ VRel S γ w x v ∧ VRel S γ w y u := by
  obtain ⟨hl, he⟩ := h
  match vs, hl with
  | [v, u], _ => exact ⟨v, u, rfl, he 0 (by simp) (by simp), he 1 (by simp) (by simp)⟩


theorem Itoa_ok (n : Int) (h0 : -9223372036854775808 ≤ n) (h1 : n ≤ 9223372036854775807) : Fn Tryd.prog fn_strconv_Itoa [.int .i64 n] [] (.str (Lib.itoa n)) [] := by
  refine Fn.of_below rfl rfl fun w γ vs hT hc => ?_
  obtain ⟨v, rfl, hv⟩ := arg1 hc
  obtain rfl := hv.int_inv
  obtain ⟨_, t, fr, hg⟩ := hT.pow10
  have hn : Tryd.prog.globalNamed "internal/strconv.uint64pow10" = some 0 := by kernel_rfl
  have htab : Lib.TabIs Tryd.prog w "internal/strconv.uint64pow10" .u64 Lib.pow10Tab := by
    simp only [Lib.TabIs, World.var?, hn, Option.bind_some, hg]
  refine (Tryd.strconv_Itoa n h0 h1 w htab).mono fun e w' hex => ?_
  obtain ⟨rfl, k, os, rfl⟩ := hex
  refine ⟨_, rfl, ⟨rfl, rfl, rfl, ?_, fun g hg => ?_⟩, .base (.str _ _ rfl)⟩
  · show w.heap.size ≤ (w.heap ++ os).size
    simp
  · show (w.heap ++ os)[g]? = w.heap[g]?
    rw [Array.getElem?_append, if_pos hg]
end

section
set_option maxRecDepth 20000
attribute [-simp] List.getD_eq_getElem?_getD

theorem drop_nth {α : Type} [Inhabited α] {l : List α} {i : Nat} (h : i < l.length) : l.drop i = nth l i :: l.drop (i + 1) := by
  rw [nth_eq h]; exact List.drop_eq_getElem_cons h

theorem idx_nth {l : List UInt8} {i : Nat} (h : i < l.length) : l.getD i 0 = nth l i := getD_nth h

end

section
set_option maxRecDepth 20000
attribute [-simp] List.getD_eq_getElem?_getD

end

section
set_option maxRecDepth 20000
attribute [-simp] List.getD_eq_getElem?_getD

end

section
set_option maxRecDepth 20000

end

section
set_option maxRecDepth 20000
attribute [-simp] List.getD_eq_getElem?_getD

/-- A number in decimal digits. -/
def decS (n : Nat) : List UInt8 :=
  if n < 10 then [UInt8.ofNat (48 + n)] else decS (n / 10) ++ [UInt8.ofNat (48 + n % 10)]
termination_by n

theorem decS_len : ∀ (k n : Nat), n < 10 ^ k → (decS n).length ≤ k + 1
  | 0, n, h => by
    have : n = 0 := by simpa using h
    subst this
    unfold decS; simp
  | k + 1, n, h => by
    unfold decS
    split
    · simp
    · have := decS_len k (n / 10) (by rw [Nat.div_lt_iff_lt_mul (by omega), ← Nat.pow_succ]; exact h)
      simp; omega

theorem decPos_ok (n : Nat) (h : n < 10 ^ 19) (h2 : n < 9223372036854775808) : Fn Tryd.prog fn_spec_l6Dec [.int .i64 n] [] (.str (decS n)) [] := by
  induction n using Nat.strongRecOn with
  | _ n ih =>
    refine Fn.of_go ln_spec_l6Dec rfl ?_
    have e1 : ¬ (n : Int) < -9223372036854775807 := by omega
    have e2 : ¬ (n : Int) < 0 := by omega
    by_cases h3 : n < 10
    · have e3 : (n : Int) < 10 := by omega
      have e4 : decS n = [UInt8.ofNat (48 + n)] := by unfold decS; rw [if_pos h3]
      have e5 : IntKind.u8.wrap (48 + (n : Int)) = 48 + n := wrap_byte (by omega) (by omega)
      have e6 : (48 + (n : Int)).toNat = 48 + n := by omega
      simp [ac_spec_l6Dec, e1, e2, e3, e5, e6, e4]
      exact ⟨by omega, .mk [] [] (by simp)⟩
    · have e3 : ¬ (n : Int) < 10 := by omega
      have e4 : decS n = decS (n / 10) ++ [UInt8.ofNat (48 + n % 10)] := by rw [decS]; rw [if_neg h3]
      have e5 : IntKind.u8.wrap (48 + (n : Int) % 10) = 48 + (n : Int) % 10 := wrap_byte (by omega) (by omega)
      have e6 : (48 + (n : Int) % 10).toNat = 48 + n % 10 := by omega
      have ht : (n : Int).tmod 10 = (n : Int) % 10 := Int.tmod_eq_emod_of_nonneg (by omega)
      have hl := decS_len 18 (n / 10) (by omega)
      simp [ac_spec_l6Dec, e1, e2, e3]
      refine ⟨by omega, goDCall_eq (ih (n / 10) (by omega) (by omega) (by omega)) (by simp) (by simp) ?_⟩
      simp [e5, e6, e4, ht]
      exact ⟨by omega, by omega, .mk [] [] (by simp)⟩

def lineT (f : Int × Int) : List UInt8 := decS f.1.toNat ++ [32] ++ decS f.2.toNat ++ [10]
/-- The text of findings. -/
def textF (l : List (Int × Int)) : List UInt8 := l.flatMap lineT

theorem decS_len20 {n : Nat} (h : n < 10 ^ 19) : (decS n).length ≤ 20 := decS_len 19 n h

theorem textF_len : ∀ {l : List (Int × Int)}, (∀ f ∈ l, f.1 < 1000000000000 ∧ f.2 < 1000000000000) → (textF l).length ≤ 42 * l.length
  | [], _ => by simp [textF]
  | f :: r, h => by
    have ih := textF_len (l := r) fun g hg => h g (List.mem_cons_of_mem _ hg)
    obtain ⟨h1, h2⟩ := h f List.mem_cons_self
    have a1 := decS_len20 (n := f.1.toNat) (by omega)
    have a2 := decS_len20 (n := f.2.toNat) (by omega)
    simp only [textF, List.flatMap_cons, lineT, List.length_append, List.length_cons, List.length_nil] at ih ⊢
    omega

theorem textF_snoc {l : List (Int × Int)} {i : Nat} (h : i < l.length) : textF (l.take (i + 1)) = textF (l.take i) ++ lineT (nth l i) := by
  rw [take_nth h]; simp [textF]

theorem l42Text_ok (l : List (Int × Int)) (hl : l.length ≤ 1100000) (hb : ∀ f ∈ l, (0 ≤ f.1 ∧ f.1 < 1000000000000) ∧ 0 ≤ f.2 ∧ f.2 < 1000000000000) : Fn Tryd.prog fn_spec_l42Text [fsl l] [] (.str (textF l)) [] := by
  refine Fn.of_go ln_spec_l42Text rfl ?_
  simp [ac_spec_l42Text, fsl]
  refine go_loop (fun i => { env := [(0, fsl l), (3, .str (textF (l.take i))), (4, .int .i64 (i : Nat))], loc := [], box := [], stat := [] }) (fun i => i ≤ l.length) (fun i => l.length - i) 0 (by omega) (Weak.of [] [] (by simp [fsl, textF])) ?_
  intro i hi
  simp [fsl]
  refine goTest_dec (fun hlt => ?_) (fun hge => ?_)
  · obtain ⟨h1, h2⟩ := hb _ (nth_mem hlt)
    have h3 := textF_len (l := l.take i) fun f hf => ⟨(hb f (List.mem_of_mem_take hf)).1.2, (hb f (List.mem_of_mem_take hf)).2.2⟩
    simp at h3
    have hsn := textF_snoc hlt
    obtain ⟨a, ha⟩ := Int.eq_ofNat_of_zero_le h1.1
    obtain ⟨b, hb'⟩ := Int.eq_ofNat_of_zero_le h2.1
    have a1 := decS_len20 (n := a) (by omega)
    have a2 := decS_len20 (n := b) (by omega)
    simp [hlt, fV]
    rw [ha]
    refine goDCall_eq (decPos_ok a (by omega) (by omega)) (by simp) (by simp) ?_
    simp [hlt, fV]
    rw [hb']
    refine ⟨by omega, by omega, goDCall_eq (decPos_ok b (by omega) (by omega)) (by simp) (by simp) ?_⟩
    simp
    refine ⟨by omega, by omega, by omega, .mk (i + 1) hlt (by omega) (Weak.of [] [] (by simp [hsn, lineT, ha, hb']))⟩
  · obtain rfl : i = l.length := by omega
    simp
    exact Ends.mk [] [] (by simp)

theorem fOk_range {n : Int} {f : Int × Int} (h : fOk n f = true) : (0 ≤ f.1 ∧ f.1 < n) ∧ 0 ≤ f.2 ∧ f.2 < 106 := by
  rw [fOk_eq] at h; simp at h; omega

theorem fsOk_all {n : Int} {l : List (Int × Int)} (h : fsOk n l = true) : ∀ f ∈ l, fOk n f = true := fun f hf => by
  obtain ⟨i, hi, rfl⟩ := List.getElem_of_mem hf
  have := allTo_iff.1 h i hi
  simp only [fsP, Bool.and_eq_true, nth_eq hi] at this
  exact this.1

/-- What FindingsText returns. -/
def ftext (l : List (Int × Int)) : List UInt8 := if fsOk 60 l then textF l else []
end

section
set_option maxRecDepth 20000
attribute [-simp] List.getD_eq_getElem?_getD

/-- A text that was drawn. -/
inductive StrR (src : List UInt8) (a k : Int) (n : Nat) : V → List (List V) → Prop
  | mk (t : List UInt8) (b : Int) (h : t.length ≤ n) (hb : a ≤ b ∧ b ≤ a + k) : StrR src a k n (.str t) [[bsl src, .int .i64 b]]

/-- Findings that were drawn. -/
inductive FsR (src : List UInt8) (a k : Int) (n : Nat) : V → List (List V) → Prop
  | mk (l : List (Int × Int)) (b : Int) (h : l.length ≤ n) (hb : a ≤ b ∧ b ≤ a + k) : FsR src a k n (.sl (some 0) 2 (l.map fV)) [[bsl src, .int .i64 b]]
end

section
set_option maxRecDepth 20000
attribute [-simp] List.getD_eq_getElem?_getD

theorem nth_ext {α : Type} [Inhabited α] {a b : List α} (hl : a.length = b.length) (h : ∀ i, i < a.length → nth a i = nth b i) : a = b :=
  List.ext_getElem hl fun i h1 h2 => by rw [← nth_eq h1, ← nth_eq h2]; exact h i h1

theorem nth_all {α : Type} [Inhabited α] {a b : List α} {i : Nat} (h : ∀ k, k < i → nth a k = nth b k) (h2 : nth a i = nth b i) : ∀ k, k < i + 1 → nth a k = nth b k := fun k hk => by
  rcases Nat.lt_succ_iff_lt_or_eq.1 hk with h3 | rfl
  · exact h k h3
  · exact h2

theorem eqFindingS_ok (a b : List (Int × Int)) (ha : a.length ≤ 1000000000000) : Fn Tryd.prog fn_laws_eqFindingS [fsl a, fsl b] [] (.bool (decide (a = b))) [] := by
  refine Fn.of_go ln_laws_eqFindingS rfl ?_
  simp [ac_laws_eqFindingS, fsl]
  refine goTest_dec (fun hl => ?_) (fun hl => ?_)
  rotate_left
  · simp [hl]
    exact Ends.mk [] [] (by simp [show a ≠ b from fun e => hl (by rw [e])])
  simp [hl]
  refine go_loop (fun i => { env := [(0, fsl a), (1, fsl b), (5, .int .i64 (i : Nat))], loc := [], box := [], stat := [] }) (fun i => i ≤ a.length ∧ ∀ k, k < i → nth a k = nth b k) (fun i => a.length - i) 0 ⟨by omega, fun k hk => by omega⟩ (Weak.of [] [] (by simp [fsl])) ?_
  rintro i ⟨hi, hp⟩
  simp [fsl, hl]
  refine goTest_dec (fun hlt => ?_) (fun hge => ?_)
  · have hlt1 : i < a.length := by omega
    have hlt2 : i < b.length := by omega
    simp [hlt, hlt1, hlt2, fV]
    refine goCall_eq (eqFinding_ok (nth a i) (nth b i)) (by simp [fV]) ?_
    simp
    refine goTest_dec (fun h1 => ?_) (fun h1 => ?_)
    · simp [h1]
      exact ⟨by omega, .mk (i + 1) ⟨by omega, nth_all hp h1⟩ (by omega) (Weak.of [] [] (by simp [fsl]))⟩
    · simp [h1]
      exact Ends.mk [] [] (by simp [show a ≠ b from fun e => h1 (by rw [e])])
  · obtain rfl : i = a.length := by omega
    simp [hl]
    exact Ends.mk [] [] (by simp [nth_ext hl hp])

/-- A text that is not long. -/
inductive TextR (n : Nat) : V → List (List V) → Prop
  | mk (t : List UInt8) (h : t.length ≤ n) : TextR n (.str t) []
end

section
set_option maxRecDepth 20000
attribute [-simp] List.getD_eq_getElem?_getD getD_cons'

theorem bytesOf_map : ∀ l : List UInt8, bytesOf (l.map byteV) = some l
  | [] => rfl
  | c :: r => by
    have ih := bytesOf_map r
    have h := c.toNat_lt
    simp [bytesOf, byteOf, byteV, ih]

def hexD (n : Nat) : UInt8 := ([48, 49, 50, 51, 52, 53, 54, 55, 56, 57, 97, 98, 99, 100, 101, 102] : List UInt8).getD n 0
/-- Bytes, two digits each. -/
def hexS (l : List UInt8) : List UInt8 := l.flatMap fun c => [hexD (c.toNat / 16), hexD (c.toNat % 16)]

theorem hexS_len : ∀ l : List UInt8, (hexS l).length = 2 * l.length
  | [] => rfl
  | c :: r => by
    have := hexS_len r
    simp only [hexS, List.flatMap_cons, List.length_append, List.length_cons, List.length_nil] at this ⊢
    omega

theorem hexS_snoc {l : List UInt8} {i : Nat} (h : i < l.length) : hexS (l.take (i + 1)) = hexS (l.take i) ++ [hexD ((nth l i).toNat / 16), hexD ((nth l i).toNat % 16)] := by
  rw [take_nth h]; simp [hexS]

theorem l1Hex_ok (s : List UInt8) (hs : s.length ≤ 100000000000) : Fn Tryd.prog fn_spec_l1Hex [.str s] [] (.str (hexS s)) [] := by
  refine Fn.of_go ln_spec_l1Hex rfl ?_
  simp [ac_spec_l1Hex]
  refine go_loop (fun i => { env := [(0, .str s), (3, .sl (some 0) 1 ((hexS (s.take i)).map byteV)), (4, .int .i64 (i : Nat))], loc := [], box := [], stat := [(0, some (.own (hexS (s.take i)).length 1))] }) (fun i => i ≤ s.length) (fun i => s.length - i) 0 (by omega) (Weak.of [(0, some 80, 0, 1)] [] (by simp [hexS])) ?_
  intro i hi
  simp
  refine goTest_dec (fun hlt => ?_) (fun hge => ?_)
  · have hn := idx_nth hlt
    have hsn := hexS_snoc hlt
    have hlen := hexS_len (s.take i)
    have hu := (nth s i).toNat_lt
    have e0 : (((nth s i).toNat : Int)).tmod 16 = ((nth s i).toNat : Int) % 16 := Int.tmod_eq_emod_of_nonneg (by omega)
    have e1 : (((nth s i).toNat : Int) / 16).toNat = (nth s i).toNat / 16 := by omega
    have e2 : (((nth s i).toNat : Int) % 16).toNat = (nth s i).toNat % 16 := by omega
    simp [hlt, hn, e0, e1, e2]
    refine ⟨by omega, by omega, by omega, by simp [roomOk]; simp at hlen; omega, by omega, .mk (i + 1) hlt (by omega) (Weak.of [(0, some 0, (hexS (s.take i)).length + 2, 1)] [] (by simp [hsn, hexD]))⟩
  · obtain rfl : i = s.length := by omega
    simp [bytesOf_map]
    exact Ends.mk [] [] (by simp)

theorem and15 : ∀ c : Fin (2 ^ 8), bitsV .and .u8 (c.val : Int) 15 = ((c.val % 16 : Nat) : Int) := by decide +kernel

theorem hexOf_ok (s : List UInt8) (hs : s.length ≤ 100000000000) : Fn Tryd.prog fn_impl_hexOf [.str s] [] (.str (hexS s)) [] := by
  refine Fn.of_go ln_impl_hexOf rfl ?_
  simp [ac_impl_hexOf]
  refine ⟨by omega, ⟨by omega, by unfold roomOk; omega⟩, ?_⟩
  refine go_loop (fun i => { env := [(0, .str s), (3, .sl (some 0) 1 ((hexS (s.take i)).map byteV)), (4, .int .i64 (i : Nat))], loc := [], box := [], stat := [(0, some (.own (hexS (s.take i)).length 1))] }) (fun i => i ≤ s.length) (fun i => s.length - i) 0 (by omega) (Weak.of [(0, some 128, 0, 1)] [] (by simp [hexS])) ?_
  intro i hi
  simp
  refine goTest_dec (fun hlt => ?_) (fun hge => ?_)
  · have hn := idx_nth hlt
    have hsn := hexS_snoc hlt
    have hlen := hexS_len (s.take i)
    have hu := (nth s i).toNat_lt
    have e0 : (((nth s i).toNat : Int)).fdiv 16 = (((nth s i).toNat / 16 : Nat) : Int) := Int.fdiv_eq_ediv_of_nonneg _ (by omega)
    have e1 : bitsV .and .u8 ((nth s i).toNat : Int) 15 = (((nth s i).toNat % 16 : Nat) : Int) := and15 ⟨_, hu⟩
    simp [hlt, hn, e0, e1, -Int.natCast_ediv, -Int.natCast_emod]
    refine ⟨by decide, by omega, by omega, by simp [roomOk]; simp at hlen; omega, by omega, .mk (i + 1) hlt (by omega) (Weak.of [(0, some 0, (hexS (s.take i)).length + 2, 1)] [] (by simp [hsn, hexD]))⟩
  · obtain rfl : i = s.length := by omega
    simp [bytesOf_map]
    exact Ends.mk [] [] (by simp)
end

section
set_option maxRecDepth 20000
attribute [-simp] List.getD_eq_getElem?_getD

def inS (n : Int) : Bool := decide (0 ≤ n) && decide (n < 65536)

theorem l3Ok_ok (n : Int) : Fn Tryd.prog fn_spec_l3Ok [.int .i64 n] [] (.bool (inS n)) [] := by
  refine Fn.of_go ln_spec_l3Ok rfl ?_
  have h : inB n 0 65535 = inS n := by rw [Bool.eq_iff_iff]; simp [inB, inS]; omega
  simp [ac_spec_l3Ok]
  refine goCall_eq (l6In_ok _ _ _) (by simp) ?_
  simp [h]
  exact Ends.mk [] [] (by simp)

theorem serialOk_ok (n : Int) : Fn Tryd.prog fn_impl_serialOk [.int .i64 n] [] (.bool (inS n)) [] := by
  refine Fn.of_go ln_impl_serialOk rfl ?_
  simp [ac_impl_serialOk]
  refine goTest_dec (fun h => ?_) (fun h => ?_) <;> simp [h]
  · exact Ends.mk [] [] (by simp [inS, h])
  · exact Ends.mk [] [] (by simp [inS, h])

structure Msg where
  stream : Int
  ssn : Int
  loose : Bool
  text : List UInt8

def mV (m : Msg) : V := .agg [.int .i64 m.stream, .int .i64 m.ssn, .bool m.loose, .str m.text]

theorem itoa_dec (n : Nat) : Lib.itoa n = decS n := by
  have h : ∀ n, Lib.decDigits n = decS n := fun n => by
    induction n using Nat.strongRecOn with
    | _ n ih =>
      rw [Lib.decDigits, decS]
      split
      · rfl
      · rw [ih (n / 10) (by omega)]
  unfold Lib.itoa
  rw [if_neg (by omega), Int.toNat_natCast, h]

/-- The text of a message. -/
def msgT (m : Msg) : List UInt8 := if inS m.stream && inS m.ssn then decS m.stream.toNat ++ [32] ++ (if m.loose then [45] else decS m.ssn.toNat) ++ [32] ++ hexS m.text else []

theorem l42Message_ok (m : Msg) (h1 : inS m.stream = true) (h2 : inS m.ssn = true) (ht : m.text.length ≤ 10000000000) : Fn Tryd.prog fn_spec_l42Message [mV m] [] (.str (decS m.stream.toNat ++ [32] ++ (if m.loose then [45] else decS m.ssn.toNat) ++ [32] ++ hexS m.text)) [] := by
  refine Fn.of_go ln_spec_l42Message rfl ?_
  simp [inS] at h1 h2
  have hl := hexS_len m.text
  obtain ⟨a, ha⟩ := Int.eq_ofNat_of_zero_le h1.1
  obtain ⟨b, hb⟩ := Int.eq_ofNat_of_zero_le h2.1
  have a1 := decS_len20 (n := a) (by omega)
  have a2 := decS_len20 (n := b) (by omega)
  simp [ac_spec_l42Message, mV, ha, hb]
  refine goTest_bool (fun h3 => ?_) (fun h3 => ?_)
  · simp [h3]
    refine goDCall_eq (decPos_ok a (by omega) (by omega)) (by simp) (by simp) ?_
    simp
    refine ⟨by omega, goDCall_eq (l1Hex_ok m.text (by omega)) (by simp) (by simp) ?_⟩
    simp
    exact ⟨by omega, Ends.mk [] [] (by simp)⟩
  · simp [h3]
    refine goDCall_eq (decPos_ok a (by omega) (by omega)) (by simp) (by simp) ?_
    simp
    refine ⟨by omega, goDCall_eq (decPos_ok b (by omega) (by omega)) (by simp) (by simp) ?_⟩
    simp
    refine ⟨by omega, by omega, goDCall_eq (l1Hex_ok m.text (by omega)) (by simp) (by simp) ?_⟩
    simp
    exact ⟨by omega, Ends.mk [] [] (by simp)⟩

theorem impl_MessageText_ok (m : Msg) (ht : m.text.length ≤ 10000000000) : Fn Tryd.prog fn_impl_MessageText [mV m] [] (.str (msgT m)) [] := by
  refine Fn.of_go ln_impl_MessageText rfl ?_
  simp [ac_impl_MessageText, mV]
  refine goCall_eq (serialOk_ok m.stream) (by simp) ?_
  simp
  refine goTest_bool (fun h1 => ?_) (fun h1 => ?_)
  · simp [h1]
    refine goCall_eq (serialOk_ok m.ssn) (by simp) ?_
    simp
    refine goTest_bool (fun h2 => ?_) (fun h2 => ?_)
    · simp [h2]
      have q1 := h1
      have q2 := h2
      simp [inS] at q1 q2
      have hl := hexS_len m.text
      obtain ⟨a, ha⟩ := Int.eq_ofNat_of_zero_le q1.1
      obtain ⟨b, hb⟩ := Int.eq_ofNat_of_zero_le q2.1
      have a1 := decS_len20 (n := a) (by omega)
      have a2 := decS_len20 (n := b) (by omega)
      have i1 := Itoa_ok (a : Int) (by omega) (by omega)
      have i2 := Itoa_ok (b : Int) (by omega) (by omega)
      rw [itoa_dec] at i1 i2
      have g1 : inS (a : Int) = true := by rw [← ha]; exact h1
      have g2 : inS (b : Int) = true := by rw [← hb]; exact h2
      simp only [ha, hb]
      refine goCall_eq i2 (by simp) ?_
      simp
      refine goTest_bool (fun h3 => ?_) (fun h3 => ?_)
      · simp [h3]
        refine goDCall_eq i1 (by simp) (by simp) ?_
        simp
        refine ⟨by omega, by omega, by omega, goDCall_eq (hexOf_ok m.text (by omega)) (by simp) (by simp) ?_⟩
        simp
        exact ⟨by omega, Ends.mk [] [] (by simp [msgT, h3, ha, hb, g1, g2])⟩
      · simp [h3]
        refine goDCall_eq i1 (by simp) (by simp) ?_
        simp
        refine ⟨by omega, by omega, by omega, goDCall_eq (hexOf_ok m.text (by omega)) (by simp) (by simp) ?_⟩
        simp
        exact ⟨by omega, Ends.mk [] [] (by simp [msgT, h3, ha, hb, g1, g2])⟩
    · simp [h2]
      exact Ends.mk [] [] (by simp [msgT, h2])
  · simp [h1]
    exact Ends.mk [] [] (by simp [msgT, h1])

/-- A number that was drawn. -/
inductive IntR (src : List UInt8) (a k : Int) (lo hi : Int) : V → List (List V) → Prop
  | mk (n b : Int) (h : lo ≤ n ∧ n ≤ hi) (hb : a ≤ b ∧ b ≤ a + k) : IntR src a k lo hi (.int .i64 n) [[bsl src, .int .i64 b]]

/-- A message that was drawn. -/
inductive MsgR : V → List (List V) → Prop
  | mk (m : Msg) (h : m.text.length ≤ 8) (h2 : -1 ≤ m.ssn ∧ m.ssn ≤ 65791) (h3 : -1 ≤ m.stream ∧ m.stream ≤ 65791) : MsgR (mV m) []
end

section
attribute [-simp] List.getD_eq_getElem?_getD

/-- A part of a message. -/
structure Part where
  tsn : Int
  stream : Int
  ssn : Int
  first : Bool
  last : Bool
  loose : Bool
  text : List UInt8
deriving DecidableEq, Inhabited

def Part.cells (d : Part) : List V := [.int .i64 d.tsn, .int .i64 d.stream, .int .i64 d.ssn, .bool d.first, .bool d.last, .bool d.loose, .str d.text]
def Part.v (d : Part) : V := .agg d.cells
def psl (l : List Part) : V := .sl none 7 (l.map Part.v)

structure Chunk where
  kind : Int
  flags : Int
  body : List UInt8
deriving DecidableEq, Inhabited

def Chunk.cells (c : Chunk) : List V := [.int .i64 c.kind, .int .i64 c.flags, .str c.body]
def Chunk.v (c : Chunk) : V := .agg c.cells
def csl (l : List Chunk) : V := .sl none 3 (l.map Chunk.v)

structure Packet where
  src : Int
  dst : Int
  tag : Int
  chunks : List Chunk
deriving DecidableEq, Inhabited

def Packet.cells (p : Packet) : List V := [.int .i64 p.src, .int .i64 p.dst, .int .i64 p.tag, csl p.chunks]
def Packet.v (p : Packet) : V := .agg p.cells

structure Hello where
  tag : Int
  window : Int
  streams : Int
  tsn : Int
deriving DecidableEq, Inhabited

def Hello.cells (x : Hello) : List V := [.int .i64 x.tag, .int .i64 x.window, .int .i64 x.streams, .int .i64 x.tsn]
def Hello.v (x : Hello) : V := .agg x.cells

def gV (g : Int × Int) : V := .agg [.int .i64 g.1, .int .i64 g.2]

structure Sack where
  cum : Int
  gaps : List (Int × Int)
deriving DecidableEq, Inhabited

def Sack.cells (x : Sack) : List V := [.int .i64 x.cum, .sl none 2 (x.gaps.map gV)]
def Sack.v (x : Sack) : V := .agg x.cells

structure Side where
  tag : Int
  streams : Int
  first : Int
  sent : List Part
  acked : Int
deriving DecidableEq, Inhabited

def Side.cells (s : Side) : List V := [.int .i64 s.tag, .int .i64 s.streams, .int .i64 s.first, psl s.sent, .int .i64 s.acked]
def Side.v (s : Side) : V := .agg s.cells
/-- A side whose parts lie in storage of its own. -/
def Side.own (σ : Nat) (s : Side) : List V := [.int .i64 s.tag, .int .i64 s.streams, .int .i64 s.first, .sl (some σ) 7 (s.sent.map Part.v), .int .i64 s.acked]

structure Assoc where
  src : Int
  dst : Int
  state : Int
  byB : Bool
  a : Side
  b : Side
deriving DecidableEq, Inhabited

def Assoc.cells (x : Assoc) : List V := [.int .i64 x.src, .int .i64 x.dst, .int .i64 x.state, .bool x.byB] ++ x.a.cells ++ x.b.cells
def Assoc.v (x : Assoc) : V := .agg x.cells
def Assoc.own (σ τ : Nat) (x : Assoc) : List V := [.int .i64 x.src, .int .i64 x.dst, .int .i64 x.state, .bool x.byB] ++ x.a.own σ ++ x.b.own τ

structure Monitor where
  records : Int
  list : List Assoc
  found : List (Int × Int)
deriving DecidableEq, Inhabited

def Monitor.cells (m : Monitor) : List V := [.int .i64 m.records, .sl none 14 (m.list.map Assoc.v), fsl m.found]
def Monitor.v (m : Monitor) : V := .agg m.cells
end

end Go.Proofs.YtnhhcfbigjpfeaaDoor
