/-
  The library's functions, by the contracts of the kit's shelf.
  Texts: cutting and numbers.
  Reading findings: the program's function and the reference's do the same.
  The program's FindingsParse.
  The reader of codes, and texts.
  Numbers and findings as texts, by the reference.
  Draws: what is drawn returns, and what it returns is not long.
  Comparing findings, counting lines, and the draw of a text of findings.
  Messages: bytes in two digits each, numbers of a serial kind, and the texts of messages by the program and by the reference.
-/
import Derived.Test.YtjkbbdmkgealfaaGreatDoorQ17
import Derived.Test.YtjkbbdmkgealfaaGreatDoorShelf
import Derived.Below
namespace Go.Proofs.YtjkbbdmkgealfaaGreatDoor
set_option linter.all false
section
open Go.RowKit
theorem Fn.of_below {P : Program} {f : FuncId} {args : List V} {R : V} (hargs : argStat args [] = []) (hR : R.stat = [])
    (h : ∀ (w : World) (γ : Ghost) (vs : List Value), Tb (γ.un w) w → CellsRel [] γ w args vs → Calls P f vs.toArray w fun e w' => ∃ v, e = .returned v ∧ Below w.heap.size w w' ∧ VRel [] γ w' R v) : Fn P f args [] R [] := by
  intro w γ vs hT hH hc
  rw [hargs] at hH hc
  refine (h w γ vs hT hc).mono fun e w' hex => ?_
  obtain ⟨v, rfl, hb, h5⟩ := hex
  have hs : resStat R [] = [] := by unfold resStat; rw [hR]; rfl
  refine ⟨v, γ, rfl, ?_, ?_⟩
  · rw [hs]
    refine ⟨fun d cs hl => ?_, ⟨fun d g hg => hH.bxd.1 d g hg, hH.bxd.2⟩, fun σ top sz q => ?_, fun g x hg => ?_, ⟨hH.av.1, fun g hg => ?_⟩, ?_⟩
    · simp [boxesOf, boxesFrom, lookB] at hl
    · simp [lookS] at q
    · exact ⟨Nat.lt_of_lt_of_le (hH.ow g x hg).1 hb.size, (hH.ow g x hg).2⟩
    · exact ⟨Nat.lt_of_lt_of_le (hH.av.2 g hg).1 hb.size, (hH.av.2 g hg).2⟩
    · exact ⟨hb.os, hb.tape, hb.output, hb.size, fun g hg _ => hb.block g hg, fun g t ⟨c, fr, q⟩ => ⟨c, fr, by rw [hb.block g (Array.getElem?_eq_some_iff.1 q).1]; exact q⟩⟩
  · rw [hs]; exact h5
theorem arg1 {S : Stats} {γ : Ghost} {w : World} {x : V} {vs : List Value} (h : CellsRel S γ w [x] vs) : ∃ v, vs = [v] ∧ VRel S γ w x v := by
  obtain ⟨hl, he⟩ := h
  match vs, hl with
  | [v], _ => exact ⟨v, rfl, he 0 (by simp) (by simp)⟩
theorem arg2 {S : Stats} {γ : Ghost} {w : World} {x y : V} {vs : List Value} (h : CellsRel S γ w [x, y] vs) : ∃ v u, vs = [v, u] ∧ VRel S γ w x v ∧ VRel S γ w y u := by
  obtain ⟨hl, he⟩ := h
  match vs, hl with
  | [v, u], _ => exact ⟨v, u, rfl, he 0 (by simp) (by simp), he 1 (by simp) (by simp)⟩
theorem Itoa_ok (n : Int) (h0 : -9223372036854775808 ≤ n) (h1 : n ≤ 9223372036854775807) : Fn Tryz.prog fn_strconv_Itoa [.int .i64 n] [] (.str (Lib.itoa n)) [] := by
  refine Fn.of_below rfl rfl fun w γ vs hT hc => ?_
  obtain ⟨v, rfl, hv⟩ := arg1 hc
  obtain rfl := hv.int_inv
  obtain ⟨_, t, fr, hg⟩ := hT.pow10
  have hn : Tryz.prog.globalNamed "internal/strconv.uint64pow10" = some 1 := by kernel_rfl
  have htab : Lib.TabIs Tryz.prog w "internal/strconv.uint64pow10" .u64 Lib.pow10Tab := by
    simp only [Lib.TabIs, World.var?, hn, Option.bind_some, hg]
  refine (Tryz.strconv_Itoa n h0 h1 w htab).mono fun e w' hex => ?_
  obtain ⟨rfl, k, os, rfl⟩ := hex
  refine ⟨_, rfl, ⟨rfl, rfl, rfl, ?_, fun g hg => ?_⟩, .base (.str _ _ rfl)⟩
  · show w.heap.size ≤ (w.heap ++ os).size
    simp
  · show (w.heap ++ os)[g]? = w.heap[g]?
    rw [Array.getElem?_append, if_pos hg]
end
section
set_option maxRecDepth 20000
attribute [-simp] List.getD_eq_getElem?_getD
def gl (p : List UInt8) : List (List UInt8) → List (List UInt8)
  | [] => [p]
  | h :: t => (p ++ h) :: t
def cutAll (c : UInt8) : List UInt8 → List (List UInt8)
  | [] => [[]]
  | x :: r => if x = c then [] :: cutAll c r else gl [x] (cutAll c r)
theorem gl_gl (p q : List UInt8) (l : List (List UInt8)) : gl p (gl q l) = gl (p ++ q) l := by cases l <;> simp [gl]
theorem gl_nil {l : List (List UInt8)} (h : l ≠ []) : gl [] l = l := by cases l <;> simp_all [gl]
theorem cutAll_ne (c : UInt8) (l : List UInt8) : cutAll c l ≠ [] := by
  cases l with
  | nil => simp [cutAll]
  | cons x r => simp only [cutAll]; split; simp; cases cutAll c r <;> simp [gl]
theorem drop_nth {α : Type} [Inhabited α] {l : List α} {i : Nat} (h : i < l.length) : l.drop i = nth l i :: l.drop (i + 1) := by
  rw [nth_eq h]; exact List.drop_eq_getElem_cons h
theorem idx_nth {l : List UInt8} {i : Nat} (h : i < l.length) : l.getD i 0 = nth l i := getD_nth h
theorem l42Cut_ok (s : List UInt8) (c : UInt8) (hs : s.length ≤ 4294967296) : Fn Tryz.prog fn_spec_l42Cut [.str s, .int .u8 c.toNat] [] (.sl (some 0) 1 ((cutAll c s).map V.str)) [] := by
  refine Fn.of_go ln_spec_l42Cut rfl ?_
  simp [ac_spec_l42Cut]
  refine go_loop (fun (x : Nat × Nat × List (List UInt8)) => { env := [(0, .str s), (1, .int .u8 c.toNat), (5, .sl (some 0) 1 (x.2.2.map V.str)), (6, .int .i64 (x.2.1 : Nat)), (7, .int .i64 (x.1 : Nat))], loc := [], box := [], stat := [(0, some (.own x.2.2.length 1))] })
    (fun x => x.2.1 ≤ x.1 ∧ x.1 ≤ s.length ∧ x.2.2.length ≤ x.1 ∧ cutAll c s = x.2.2 ++ gl ((s.take x.1).drop x.2.1) (cutAll c (s.drop x.1))) (fun x => s.length - x.1) (0, 0, [])
    ⟨by simp, by simp, by simp, by simp [gl_nil (cutAll_ne c s)]⟩ (Weak.of [(0, some 128, 0, 1)] [] (by simp)) ?_
  rintro ⟨i, f, out⟩ ⟨h1, h2, h3, h4⟩
  simp only at h1 h2 h3 h4
  simp
  refine goTest_dec (fun hlt => ?_) (fun hge => ?_)
  · have hn := idx_nth hlt
    have ht : (s.take (i + 1)).drop f = (s.take i).drop f ++ [nth s i] := by
      rw [take_nth hlt, List.drop_append_of_le_length (by simp; omega)]
    rw [drop_nth hlt] at h4
    have hc : ((nth s i).toNat = c.toNat) ↔ nth s i = c := by rw [UInt8.toNat_inj]
    simp [hlt, hn]
    refine goTest_dec (fun he => ?_) (fun he => ?_)
    · have he2 := hc.1 he
      rw [cutAll, if_pos he2] at h4
      simp [he]
      refine ⟨⟨h1, by omega⟩, ⟨by simp [roomOk]; omega, ?_⟩⟩
      refine ⟨by omega, .mk (i + 1, i + 1, out ++ [(s.take i).drop f]) ⟨by simp, hlt, by simp; omega, ?_⟩ (by simp; omega) (Weak.of [(0, some 0, out.length + 1, 1)] [] (by simp))⟩
      have e0 : (s.take (i + 1)).drop (i + 1) = [] := by simp
      show cutAll c s = (out ++ [(s.take i).drop f]) ++ gl ((s.take (i + 1)).drop (i + 1)) (cutAll c (s.drop (i + 1)))
      rw [h4, e0, gl_nil (cutAll_ne c _)]
      simp [gl]
    · have he2 : ¬ nth s i = c := fun q => he (hc.2 q)
      rw [cutAll, if_neg he2, gl_gl, ← ht] at h4
      simp [he]
      exact ⟨by omega, .mk (i + 1, f, out) ⟨by simp; omega, hlt, by simp; omega, h4⟩ (by simp; omega) (Weak.of [(0, some 0, out.length, 1)] [] (by simp))⟩
  · obtain rfl : i = s.length := by omega
    simp [cutAll, gl] at h4
    simp
    refine ⟨h1, by simp [roomOk]; omega, ?_⟩
    exact Ends.mk [(0, some 0, out.length + 1, 1)] [] (by simp [h4])
def dig (c : UInt8) : Bool := 48 ≤ c.toNat && c.toNat ≤ 57
def decN (l : List UInt8) : Nat := l.foldl (fun n c => 10 * n + (c.toNat - 48)) 0
def smallOk (l : List UInt8) : Bool := 1 ≤ l.length && l.length ≤ 3 && (l.length == 1 || (l.getD 0 0).toNat != 48) && l.all dig
theorem dec_lt : ∀ (l : List UInt8) (n : Nat), (∀ c ∈ l, dig c = true) → l.foldl (fun n c => 10 * n + (c.toNat - 48)) n < 10 ^ l.length * (n + 1)
  | [], n, _ => by show n < 1 * (n + 1); omega
  | c :: r, n, h => by
    have h1 := dec_lt r (10 * n + (c.toNat - 48)) fun x hx => h x (List.mem_cons_of_mem _ hx)
    have h2 := h c List.mem_cons_self
    simp only [dig, Bool.and_eq_true, decide_eq_true_eq] at h2
    rw [List.foldl_cons, List.length_cons, Nat.pow_succ, Nat.mul_assoc]
    exact Nat.lt_of_lt_of_le h1 (Nat.mul_le_mul_left _ (by omega))
theorem decN_lt {l : List UInt8} (h : ∀ c ∈ l, dig c = true) : decN l < 10 ^ l.length := by
  have := dec_lt l 0 h
  simp only [Nat.zero_add, Nat.mul_one] at this; exact this
theorem decN_snoc {l : List UInt8} {i : Nat} (h : i < l.length) : decN (l.take (i + 1)) = 10 * decN (l.take i) + ((l.getD i 0).toNat - 48) := by
  rw [List.take_add_one, decN, List.foldl_append]
  simp [decN, h, List.getD_eq_getElem?_getD]
theorem smallNumber_ok (l : List UInt8) : Fn Tryz.prog fn_impl_smallNumber [.str l] [] (.tup [.int .i64 (if smallOk l then decN l else 0), .bool (smallOk l)]) [] := by
  refine Fn.of_go ln_impl_smallNumber rfl ?_
  by_cases h1 : l = []
  · subst h1
    simp [ac_impl_smallNumber]
    exact Ends.mk [] [] (by simp [smallOk])
  have hl1 : 0 < l.length := List.length_pos_iff.2 h1
  have hn0 := idx_nth hl1
  simp [ac_impl_smallNumber, h1]
  have hok : ¬ 3 < l.length → ¬ (1 < l.length ∧ (nth l 0).toNat = 48) → smallOk l = l.all dig := fun h2 h4 => by
    have h7 : (l.length == 1 || (l.getD 0 0).toNat != 48) = true := by
      have : l.length = 1 ∨ (nth l 0).toNat ≠ 48 := by omega
      simpa [hn0] using this
    have h5 : 1 ≤ l.length := by omega
    have h6 : l.length ≤ 3 := by omega
    simp only [smallOk, h7]
    simp [h5, h6]
  refine goTest_dec (fun h2 => ?_) (fun h2 => ?_)
  · have e : smallOk l = false := by simp [smallOk]; omega
    simp [h2, e]
    exact Ends.mk [] [] (by simp)
  simp [h2]
  repeat' (first
    | (refine goTest_dec (fun h => ?_) (fun h => ?_) <;> simp [h, h1, hl1, hn0])
    | (refine go_loop (fun i => { env := [(0, .str l), (4, .int .i64 (decN (l.take i) : Nat)), (5, .int .i64 (i : Nat))], loc := [], box := [], stat := [] }) (fun i => i ≤ l.length ∧ (∀ x ∈ l.take i, dig x = true) ∧ smallOk l = l.all dig) (fun i => l.length - i) 0 ⟨by omega, by simp, hok h2 (by omega)⟩ (Weak.of [] [] (by simp [decN])) ?_)
    | exact Ends.mk [] [] (by simp [show smallOk l = false by simp [smallOk, *]; omega]))
  all_goals
    rintro i ⟨hi, hdi, hok⟩
    have hlt2 := decN_lt hdi
    simp
    refine goTest_dec (fun hlt => ?_) (fun hge => ?_)
    · have hlen : (l.take i).length ≤ 2 := by simp; omega
      have hpow : 10 ^ (l.take i).length ≤ 10 ^ 2 := Nat.pow_le_pow_right (by omega) hlen
      have hn := idx_nth hlt
      have hsn := decN_snoc hlt
      rw [hn] at hsn
      have hbad : dig (nth l i) = false → smallOk l = false := fun q => by rw [hok, List.all_eq_false]; exact ⟨_, nth_mem hlt, by simp [q]⟩
      have hu := (nth l i).toNat_lt
      simp [hlt, hn]
      repeat' (first
        | (refine goTest_dec (fun h => ?_) (fun h => ?_) <;> simp [h, hlt, hn])
        | exact Ends.mk [] [] (by simp [hbad (by simp [dig]; omega)]))
      have hdd : dig (nth l i) = true := by simp [dig]; omega
      rw [wrap_i64 (by omega) (by omega)]
      exact ⟨by omega, by omega, by omega, by omega, .mk (i + 1) ⟨hlt, fun x hx => by
        rw [take_nth hlt, List.mem_append] at hx
        rcases hx with hx | hx
        · exact hdi x hx
        · rw [List.mem_singleton.1 hx]; exact hdd, hok⟩ (by omega) (Weak.of [] [] (by simp [hsn]; omega))⟩
    · obtain rfl : i = l.length := by omega
      have : smallOk l = true := by rw [hok]; simpa using hdi
      simp
      exact Ends.mk [] [] (by simp [this])
def numS (l : List UInt8) : Int := if smallOk l then decN l else -1
theorem l42Number_ok (l : List UInt8) : Fn Tryz.prog fn_spec_l42Number [.str l] [] (.int .i64 (numS l)) [] := by
  refine Fn.of_go ln_spec_l42Number rfl ?_
  by_cases h1 : l = []
  · subst h1
    simp [ac_spec_l42Number]
    refine goCall_eq (l6In_ok _ _ _) (by simp) ?_
    simp [inB]
    exact Ends.mk [] [] (by simp [numS, smallOk])
  have hl1 : 0 < l.length := List.length_pos_iff.2 h1
  have hn0 := idx_nth hl1
  have hin : inB (l.length : Int) 1 3 = decide (l.length ≤ 3) := by
    rw [Bool.eq_iff_iff]; simp [inB]; omega
  have hok : l.length ≤ 3 → ¬ (1 < l.length ∧ (nth l 0).toNat = 48) → smallOk l = l.all dig := fun h2 h4 => by
    have h7 : (l.length == 1 || (l.getD 0 0).toNat != 48) = true := by
      have : l.length = 1 ∨ (nth l 0).toNat ≠ 48 := by omega
      simpa [hn0] using this
    have h5 : 1 ≤ l.length := by omega
    simp only [smallOk, h7]
    simp [h5, h2]
  simp [ac_spec_l42Number]
  refine goCall_eq (l6In_ok _ _ _) (by simp) ?_
  simp [hin]
  refine goTest_dec (fun h2 => ?_) (fun h2 => ?_)
  rotate_left
  · have e : smallOk l = false := by simp [smallOk]; omega
    simp [h2]
    exact Ends.mk [] [] (by simp [numS, e])
  simp [h2]
  repeat' (first
    | (refine goTest_dec (fun h => ?_) (fun h => ?_) <;> simp [h, h1, hl1, hn0])
    | (refine go_loop (fun i => { env := [(0, .str l), (3, .int .i64 (decN (l.take i) : Nat)), (4, .int .i64 (i : Nat))], loc := [], box := [], stat := [] }) (fun i => i ≤ l.length ∧ (∀ x ∈ l.take i, dig x = true) ∧ smallOk l = l.all dig) (fun i => l.length - i) 0 ⟨by omega, by simp, hok h2 (by omega)⟩ (Weak.of [] [] (by simp [decN])) ?_)
    | exact Ends.mk [] [] (by simp [numS, show smallOk l = false by simp [smallOk, *]; omega]))
  all_goals
    rintro i ⟨hi, hdi, hok⟩
    have hlt2 := decN_lt hdi
    simp
    refine goTest_dec (fun hlt => ?_) (fun hge => ?_)
    · have hlen : (l.take i).length ≤ 2 := by simp; omega
      have hpow : 10 ^ (l.take i).length ≤ 10 ^ 2 := Nat.pow_le_pow_right (by omega) hlen
      have hn := idx_nth hlt
      have hsn := decN_snoc hlt
      rw [hn] at hsn
      have hbad : dig (nth l i) = false → smallOk l = false := fun q => by rw [hok, List.all_eq_false]; exact ⟨_, nth_mem hlt, by simp [q]⟩
      have hu := (nth l i).toNat_lt
      simp [hlt, hn]
      repeat' (first
        | (refine goTest_dec (fun h => ?_) (fun h => ?_) <;> simp [h, hlt, hn])
        | exact Ends.mk [] [] (by simp [numS, hbad (by simp [dig]; omega)]))
      have hdd : dig (nth l i) = true := by simp [dig]; omega
      rw [wrap_i64 (by omega) (by omega)]
      exact ⟨by omega, by omega, by omega, by omega, .mk (i + 1) ⟨hlt, fun x hx => by
        rw [take_nth hlt, List.mem_append] at hx
        rcases hx with hx | hx
        · exact hdi x hx
        · rw [List.mem_singleton.1 hx]; exact hdd, hok⟩ (by omega) (Weak.of [] [] (by simp [hsn]; omega))⟩
    · obtain rfl : i = l.length := by omega
      have : smallOk l = true := by rw [hok]; simpa using hdi
      simp
      exact Ends.mk [] [] (by simp [numS, this])
end
section
set_option maxRecDepth 20000
attribute [-simp] List.getD_eq_getElem?_getD
def cut1 (c : UInt8) : List UInt8 → List UInt8 × List UInt8 × Bool
  | [] => ([], [], false)
  | x :: r => if x = c then ([], r, true) else (x :: (cut1 c r).1, (cut1 c r).2.1, (cut1 c r).2.2)
theorem index_one (c : UInt8) : ∀ s : List UInt8, Lib.index s [c] = if (cut1 c s).2.2 then ((cut1 c s).1.length : Int) else -1
  | [] => by simp [Lib.index, cut1]
  | x :: r => by
    have ih := index_one c r
    by_cases e : x = c
    · subst e; simp [Lib.index, cut1, List.isPrefixOf]
    · have e2 : ([c].isPrefixOf (x :: r)) = false := by simp [List.isPrefixOf, Ne.symm e]
      have e3 : cut1 c (x :: r) = (x :: (cut1 c r).1, (cut1 c r).2.1, (cut1 c r).2.2) := by simp [cut1, e]
      rw [e3]
      simp only [Lib.index, e2, ih]
      cases h : (cut1 c r).2.2 with
      | false => simp
      | true =>
        have : ¬ (((cut1 c r).1.length : Int) = -1) := by omega
        simp [this]
theorem cut1_parts (c : UInt8) : ∀ s : List UInt8, (cut1 c s).2.2 = true → s = (cut1 c s).1 ++ c :: (cut1 c s).2.1
  | [], h => by simp [cut1] at h
  | x :: r, h => by
    simp only [cut1] at h ⊢
    by_cases e : x = c
    · simp [e]
    · rw [if_neg e] at h ⊢
      have := cut1_parts c r h
      rw [List.cons_append, ← this]
theorem cut1_none (c : UInt8) : ∀ s : List UInt8, (cut1 c s).2.2 = false → (cut1 c s).1 = s ∧ (cut1 c s).2.1 = [] ∧ cutAll c s = [s] ∧ c ∉ s
  | [], _ => by simp [cut1, cutAll]
  | x :: r, h => by
    simp only [cut1] at h ⊢
    by_cases e : x = c
    · simp [e] at h
    · rw [if_neg e] at h ⊢
      obtain ⟨h1, h2, h3, h4⟩ := cut1_none c r h
      simp only [cutAll, if_neg e, h3, gl]
      exact ⟨by simp [h1], h2, rfl, by simp [h4, Ne.symm e]⟩
theorem cut1_all (c : UInt8) : ∀ s : List UInt8, (cut1 c s).2.2 = true → cutAll c s = (cut1 c s).1 :: cutAll c (cut1 c s).2.1
  | [], h => by simp [cut1] at h
  | x :: r, h => by
    simp only [cut1] at h ⊢
    by_cases e : x = c
    · simp [e, cutAll]
    · rw [if_neg e] at h ⊢
      have := cut1_all c r h
      simp only [cutAll, if_neg e, this, gl]
      simp
theorem cutAll_len (c : UInt8) : ∀ s : List UInt8, (cutAll c s).length ≤ s.length + 1
  | [] => by simp [cutAll]
  | x :: r => by
    have := cutAll_len c r
    simp only [cutAll]
    split
    · simp; omega
    · cases h : cutAll c r with
      | nil => simp [gl]
      | cons y t => rw [h] at this; simp [gl] at this ⊢; omega
theorem gl_mem {p x : List UInt8} {l : List (List UInt8)} (h : x ∈ gl p l) : x ∈ l ∨ ∃ y, (y ∈ l ∨ y = []) ∧ x = p ++ y := by
  cases l with
  | nil => simp [gl] at h; exact .inr ⟨[], .inr rfl, by simp [h]⟩
  | cons y t =>
    simp [gl] at h
    rcases h with h | h
    · exact .inr ⟨y, .inl (by simp), h⟩
    · exact .inl (by simp [h])
theorem cutAll_part (c : UInt8) (s : List UInt8) : ∀ x, x ∈ cutAll c s → x.length ≤ s.length := by
  induction s with
  | nil => intro x h; simp [cutAll] at h; simp [h]
  | cons y r ih =>
    intro x h
    simp only [cutAll] at h
    split at h
    · rcases List.mem_cons.1 h with h | h
      · simp [h]
      · have := ih x h; simp; omega
    · rcases gl_mem h with h | ⟨z, h, e⟩
      · have := ih x h; simp; omega
      · rcases h with h | h
        · have := ih z h; simp [e]; omega
        · simp [e, h]
end
section
set_option maxRecDepth 20000
attribute [-simp] List.getD_eq_getElem?_getD
theorem cutAll_notin {c : UInt8} : ∀ {s : List UInt8}, c ∉ s → cutAll c s = [s]
  | [], _ => rfl
  | x :: r, h => by
    simp at h
    simp [cutAll, Ne.symm h.1, cutAll_notin h.2, gl]
end
section
set_option maxRecDepth 20000
theorem xor_nonneg {x y : Int} (hx : 0 ≤ x) (hx2 : x < 2 ^ 62) (hy : 0 ≤ y) (hy2 : y < 2 ^ 62) : 0 ≤ bitsV .xor .i64 x y := by
  obtain ⟨a, rfl⟩ := Int.eq_ofNat_of_zero_le hx
  obtain ⟨b, rfl⟩ := Int.eq_ofNat_of_zero_le hy
  have ha : a < 2 ^ 62 := by omega
  have hb : b < 2 ^ 62 := by omega
  have hab := Nat.xor_lt_two_pow ha hb
  have e1 : (BitVec.ofInt 64 (a : Int)).toNat = a := by
    simp [BitVec.toNat_ofInt]; omega
  have e2 : (BitVec.ofInt 64 (b : Int)).toNat = b := by
    simp [BitVec.toNat_ofInt]; omega
  have e : (BitVec.ofInt 64 (a : Int) ^^^ BitVec.ofInt 64 (b : Int)).toNat = a ^^^ b := by
    rw [BitVec.toNat_xor, e1, e2]
  show 0 ≤ IntKind.i64.wrap ((BitVec.ofInt 64 (a : Int) ^^^ BitVec.ofInt 64 (b : Int)).toNat : Int)
  rw [e]
  rw [wrap_i64 (by omega) (by omega)]
  omega
set_option maxRecDepth 20000 in
theorem pick_ok (src : List UInt8) (at_ : Nat) (n : Int) (h : at_ < 1000000000) (hn : n < 1000000) : ∃ r : Int, 0 ≤ r ∧ (r < n ∨ (n < 1 ∧ r = 0) ∨ r = 0) ∧
    Fn Tryz.prog fn_spec_l6Rd_pick [.ptr 1000 0, .int .i64 n] [[bsl src, .int .i64 at_]] (.int .i64 r) [[bsl src, .int .i64 (at_ + 1)]] := by
  by_cases h1 : n < 1
  · refine ⟨0, by omega, by omega, Fn.of_go ln_spec_l6Rd_pick rfl ?_⟩
    simp [ac_spec_l6Rd_pick, bsl, h1]
    exact ⟨by omega, .mk [] [(1000, 1000)] (by simp)⟩
  by_cases h2 : src.length = 0
  · refine ⟨0, by omega, by omega, Fn.of_go ln_spec_l6Rd_pick rfl ?_⟩
    simp [ac_spec_l6Rd_pick, bsl, h1, h2]
    exact ⟨by omega, .mk [] [(1000, 1000)] (by simp)⟩
  have h2' : ¬ (src.length : Int) = 0 := by omega
  by_cases h3 : at_ < src.length
  · refine ⟨((src.getD at_ 0).toNat : Int).tmod n, ?_, ?_, Fn.of_go ln_spec_l6Rd_pick rfl ?_⟩
    · exact Int.tmod_nonneg _ (Int.natCast_nonneg _)
    · exact .inl (Int.tmod_lt_of_pos _ (by omega))
    · have e : (at_ : Int) + 1 - 1 = at_ := by omega
      have h3' : (at_ : Int) < src.length := by omega
      simp [ac_spec_l6Rd_pick, bsl, h1, h2, h2', e, h3, h3', wrap_u8]
      exact ⟨by omega, by omega, by omega, .mk [] [(1000, 1000)] (by simp)⟩
  have h3' : ¬ (at_ : Int) < src.length := by omega
  have e : (at_ : Int) + 1 - 1 = at_ := by omega
  have hpos : 0 < src.length := by omega
  have q1 : (at_ : Int).tmod src.length = ((at_ % src.length : Nat) : Int) := rfl
  have q2 : ((at_ : Int) * 7 + 3).tmod src.length = (((at_ * 7 + 3) % src.length : Nat) : Int) := rfl
  have q3 : (at_ : Int).tdiv src.length = ((at_ / src.length : Nat) : Int) := rfl
  have m1 : at_ % src.length < src.length := Nat.mod_lt _ hpos
  have m2 : (at_ * 7 + 3) % src.length < src.length := Nat.mod_lt _ hpos
  have m3 : at_ / src.length ≤ at_ := Nat.div_le_self _ _
  have g0 : (0 : Int) ≤ (at_ : Int) / src.length := Int.ediv_nonneg (by omega) (by omega)
  have u1 := (src[at_ % src.length]).toNat_lt
  have u2 := (src[(at_ * 7 + 3) % src.length]).toNat_lt
  refine ⟨(bitsV .xor .i64 ((src[at_ % src.length].toNat : Int) * 131 + (src[(at_ * 7 + 3) % src.length].toNat : Int) * 1117 + at_ * 29 + ((at_ / src.length : Nat) : Int) * 53)
    (((src[at_ % src.length].toNat : Int) * 131 + (src[(at_ * 7 + 3) % src.length].toNat : Int) * 1117 + at_ * 29 + ((at_ / src.length : Nat) : Int) * 53).tdiv 64)).tmod n, ?_, ?_, Fn.of_go ln_spec_l6Rd_pick rfl ?_⟩
  · refine Int.tmod_nonneg _ (xor_nonneg (by omega) (by omega) (Int.tdiv_nonneg (by omega) (by omega)) ?_)
    rw [Int.tdiv_eq_ediv_of_nonneg (by omega)]
    omega
  · exact .inl (Int.tmod_lt_of_pos _ (by omega))
  · have m1' : ((at_ % src.length : Nat) : Int) < src.length := by omega
    have m2' : (((at_ * 7 + 3) % src.length : Nat) : Int) < src.length := by omega
    simp [ac_spec_l6Rd_pick, bsl, h1, h2, h2', e, h3, h3', wrap_u8, q1, q2, q3, m1, m2, m1', m2', -Int.natCast_emod, -Int.natCast_ediv]
    rw [Int.tdiv_eq_ediv_of_nonneg (by omega)]
    refine ⟨by omega, by omega, by omega, by omega, by omega, by omega, by omega, by omega, by omega, by omega, by omega, by omega, by omega, by omega, .mk [] [(1000, 1000)] (by simp)⟩
theorem open_ok (l : List UInt8) : Fn Tryz.prog fn_spec_l6Open [bsl l] [] (.ptr 1000 0) [[bsl (l.take 2000), .int .i64 0]] := by
  refine Fn.of_go ln_spec_l6Open rfl ?_
  by_cases h : 2000 < l.length
  · have h' : (2000 : Int) < l.length := by omega
    simp [ac_spec_l6Open, bsl, h, h', fillV, partsOk]
    exact ⟨by omega, .mk [] [(1000, 10)] (by simp)⟩
  · have h' : ¬ (2000 : Int) < l.length := by omega
    simp [ac_spec_l6Open, bsl, h, h', fillV, partsOk]
    exact .mk [] [(1000, 10)] (by simp; rw [List.take_of_length_le]; simp; omega)
end
section
set_option maxRecDepth 20000
attribute [-simp] List.getD_eq_getElem?_getD
def decS (n : Nat) : List UInt8 :=
  if n < 10 then [UInt8.ofNat (48 + n)] else decS (n / 10) ++ [UInt8.ofNat (48 + n % 10)]
termination_by n
theorem decS_len : ∀ (k n : Nat), n < 10 ^ k → (decS n).length ≤ k + 1
  | 0, n, h => by
    have : n = 0 := by simpa using h
    subst this
    unfold decS; simp
  | k + 1, n, h => by
    unfold decS
    split
    · simp
    · have := decS_len k (n / 10) (by rw [Nat.div_lt_iff_lt_mul (by omega), ← Nat.pow_succ]; exact h)
      simp; omega
theorem decPos_ok (n : Nat) (h : n < 10 ^ 19) (h2 : n < 9223372036854775808) : Fn Tryz.prog fn_spec_l6Dec [.int .i64 n] [] (.str (decS n)) [] := by
  induction n using Nat.strongRecOn with
  | _ n ih =>
    refine Fn.of_go ln_spec_l6Dec rfl ?_
    have e1 : ¬ (n : Int) < -9223372036854775807 := by omega
    have e2 : ¬ (n : Int) < 0 := by omega
    by_cases h3 : n < 10
    · have e3 : (n : Int) < 10 := by omega
      have e4 : decS n = [UInt8.ofNat (48 + n)] := by unfold decS; rw [if_pos h3]
      have e5 : IntKind.u8.wrap (48 + (n : Int)) = 48 + n := wrap_byte (by omega) (by omega)
      have e6 : (48 + (n : Int)).toNat = 48 + n := by omega
      simp [ac_spec_l6Dec, e1, e2, e3, e5, e6, e4]
      exact ⟨by omega, .mk [] [] (by simp)⟩
    · have e3 : ¬ (n : Int) < 10 := by omega
      have e4 : decS n = decS (n / 10) ++ [UInt8.ofNat (48 + n % 10)] := by rw [decS]; rw [if_neg h3]
      have e5 : IntKind.u8.wrap (48 + (n : Int) % 10) = 48 + (n : Int) % 10 := wrap_byte (by omega) (by omega)
      have e6 : (48 + (n : Int) % 10).toNat = 48 + n % 10 := by omega
      have ht : (n : Int).tmod 10 = (n : Int) % 10 := Int.tmod_eq_emod_of_nonneg (by omega)
      have hl := decS_len 18 (n / 10) (by omega)
      simp [ac_spec_l6Dec, e1, e2, e3]
      refine ⟨by omega, goDCall_eq (ih (n / 10) (by omega) (by omega) (by omega)) (by simp) (by simp) ?_⟩
      simp [e5, e6, e4, ht]
      exact ⟨by omega, by omega, .mk [] [] (by simp)⟩
def lineT (f : Int × Int) : List UInt8 := decS f.1.toNat ++ [32] ++ decS f.2.toNat ++ [10]
def textF (l : List (Int × Int)) : List UInt8 := l.flatMap lineT
theorem decS_len20 {n : Nat} (h : n < 10 ^ 19) : (decS n).length ≤ 20 := decS_len 19 n h
theorem textF_len : ∀ {l : List (Int × Int)}, (∀ f ∈ l, f.1 < 1000000000000 ∧ f.2 < 1000000000000) → (textF l).length ≤ 42 * l.length
  | [], _ => by simp [textF]
  | f :: r, h => by
    have ih := textF_len (l := r) fun g hg => h g (List.mem_cons_of_mem _ hg)
    obtain ⟨h1, h2⟩ := h f List.mem_cons_self
    have a1 := decS_len20 (n := f.1.toNat) (by omega)
    have a2 := decS_len20 (n := f.2.toNat) (by omega)
    simp only [textF, List.flatMap_cons, lineT, List.length_append, List.length_cons, List.length_nil] at ih ⊢
    omega
theorem textF_snoc {l : List (Int × Int)} {i : Nat} (h : i < l.length) : textF (l.take (i + 1)) = textF (l.take i) ++ lineT (nth l i) := by
  rw [take_nth h]; simp [textF]
theorem l42Text_ok (l : List (Int × Int)) (hl : l.length ≤ 1100000) (hb : ∀ f ∈ l, (0 ≤ f.1 ∧ f.1 < 1000000000000) ∧ 0 ≤ f.2 ∧ f.2 < 1000000000000) : Fn Tryz.prog fn_spec_l42Text [fsl l] [] (.str (textF l)) [] := by
  refine Fn.of_go ln_spec_l42Text rfl ?_
  simp [ac_spec_l42Text, fsl]
  refine go_loop (fun i => { env := [(0, fsl l), (3, .str (textF (l.take i))), (4, .int .i64 (i : Nat))], loc := [], box := [], stat := [] }) (fun i => i ≤ l.length) (fun i => l.length - i) 0 (by omega) (Weak.of [] [] (by simp [fsl, textF])) ?_
  intro i hi
  simp [fsl]
  refine goTest_dec (fun hlt => ?_) (fun hge => ?_)
  · obtain ⟨h1, h2⟩ := hb _ (nth_mem hlt)
    have h3 := textF_len (l := l.take i) fun f hf => ⟨(hb f (List.mem_of_mem_take hf)).1.2, (hb f (List.mem_of_mem_take hf)).2.2⟩
    simp at h3
    have hsn := textF_snoc hlt
    obtain ⟨a, ha⟩ := Int.eq_ofNat_of_zero_le h1.1
    obtain ⟨b, hb'⟩ := Int.eq_ofNat_of_zero_le h2.1
    have a1 := decS_len20 (n := a) (by omega)
    have a2 := decS_len20 (n := b) (by omega)
    simp [hlt, fV]
    rw [ha]
    refine goDCall_eq (decPos_ok a (by omega) (by omega)) (by simp) (by simp) ?_
    simp [hlt, fV]
    rw [hb']
    refine ⟨by omega, by omega, goDCall_eq (decPos_ok b (by omega) (by omega)) (by simp) (by simp) ?_⟩
    simp
    refine ⟨by omega, by omega, by omega, .mk (i + 1) hlt (by omega) (Weak.of [] [] (by simp [hsn, lineT, ha, hb']))⟩
  · obtain rfl : i = l.length := by omega
    simp
    exact Ends.mk [] [] (by simp)
theorem fOk_range {n : Int} {f : Int × Int} (h : fOk n f = true) : (0 ≤ f.1 ∧ f.1 < n) ∧ 0 ≤ f.2 ∧ f.2 < 106 := by
  rw [fOk_eq] at h; simp at h; omega
theorem fsOk_all {n : Int} {l : List (Int × Int)} (h : fsOk n l = true) : ∀ f ∈ l, fOk n f = true := fun f hf => by
  obtain ⟨i, hi, rfl⟩ := List.getElem_of_mem hf
  have := allTo_iff.1 h i hi
  simp only [fsP, Bool.and_eq_true, nth_eq hi] at this
  exact this.1
def ftext (l : List (Int × Int)) : List UInt8 := if fsOk 60 l then textF l else []
end
section
set_option maxRecDepth 20000
attribute [-simp] List.getD_eq_getElem?_getD
theorem pickI (src : List UInt8) (a n : Int) (h : 0 ≤ a ∧ a < 1000000000) (hn : 0 < n ∧ n < 1000000) : ∃ r : Nat, (r : Int) < n ∧
    Fn Tryz.prog fn_spec_l6Rd_pick [.ptr 1000 0, .int .i64 n] [[bsl src, .int .i64 a]] (.int .i64 r) [[bsl src, .int .i64 (a + 1)]] := by
  obtain ⟨k, rfl⟩ := Int.eq_ofNat_of_zero_le h.1
  obtain ⟨r, h1, h2, h3⟩ := pick_ok src k n (by omega) (by omega)
  obtain ⟨i, rfl⟩ := Int.eq_ofNat_of_zero_le h1
  exact ⟨i, by omega, h3⟩
theorem goPick {st : St} {p : Nat} {src : List UInt8} {a n : Int} {d : AD} {rs : List AOp} {k : List It} {Q : AE → St → Prop} (hb : lookB st.box p = some [bsl src, .int .i64 a]) (ha : 0 ≤ a ∧ a < 1000000000) (hn : 0 < n ∧ n < 1000000)
    (h : ∀ r : Nat, (r : Int) < n → go Tryz.prog (.ops rs :: k) Q .normal (Delta.apply { val := .int .i64 r, nb := [(p, [.sl none 1 (src.map byteV), .int .i64 (a + 1)])] } st d)) : goCall Tryz.prog fn_spec_l6Rd_pick [.ptr p 0, .int .i64 n] d rs k Q st := by
  obtain ⟨r, hr, f⟩ := pickI src a n ha hn
  refine goCall_gen [] [(1000, p)] [] [] none f (by simp [bsl, hb]) ?_
  have := h r hr
  simpa [bsl] using this
def ssl (l : List (List UInt8)) : V := .sl none 1 (l.map V.str)
theorem of_ok (src : List UInt8) (a : Int) (xs : List (List UInt8)) (h : 0 ≤ a ∧ a < 1000000000) (hx : 0 < xs.length) (hx2 : xs.length < 1000000) : ∃ s ∈ xs,
    Fn Tryz.prog fn_spec_l6Rd_of [.ptr 1000 0, ssl xs] [[bsl src, .int .i64 a]] (.str s) [[bsl src, .int .i64 (a + 1)]] := by
  obtain ⟨r, hr, hf⟩ := pickI src a xs.length h (by omega)
  have hr2 : r < xs.length := by omega
  refine ⟨nth xs r, nth_mem hr2, Fn.of_go ln_spec_l6Rd_of rfl ?_⟩
  simp [ac_spec_l6Rd_of, ssl, bsl]
  refine goCall_gen [] [(1000, 1000)] [] [] none hf (by simp [bsl]) ?_
  simp [bsl, hr2]
  exact Ends.mk [] [(1000, 1000)] (by simp)
inductive StrR (src : List UInt8) (a k : Int) (n : Nat) : V → List (List V) → Prop
  | mk (t : List UInt8) (b : Int) (h : t.length ≤ n) (hb : a ≤ b ∧ b ≤ a + k) : StrR src a k n (.str t) [[bsl src, .int .i64 b]]
inductive FsR (src : List UInt8) (a k : Int) (n : Nat) : V → List (List V) → Prop
  | mk (l : List (Int × Int)) (b : Int) (h : l.length ≤ n) (hb : a ≤ b ∧ b ≤ a + k) : FsR src a k n (.sl (some 0) 2 (l.map fV)) [[bsl src, .int .i64 b]]
end
section
set_option maxRecDepth 20000
attribute [-simp] List.getD_eq_getElem?_getD
inductive TextR (n : Nat) : V → List (List V) → Prop
  | mk (t : List UInt8) (h : t.length ≤ n) : TextR n (.str t) []
end
section
set_option maxRecDepth 20000
attribute [-simp] List.getD_eq_getElem?_getD getD_cons'
theorem bytesOf_map : ∀ l : List UInt8, bytesOf (l.map byteV) = some l
  | [] => rfl
  | c :: r => by
    have ih := bytesOf_map r
    have h := c.toNat_lt
    simp [bytesOf, byteOf, byteV, ih]
def hexD (n : Nat) : UInt8 := ([48, 49, 50, 51, 52, 53, 54, 55, 56, 57, 97, 98, 99, 100, 101, 102] : List UInt8).getD n 0
def hexS (l : List UInt8) : List UInt8 := l.flatMap fun c => [hexD (c.toNat / 16), hexD (c.toNat % 16)]
theorem hexS_len : ∀ l : List UInt8, (hexS l).length = 2 * l.length
  | [] => rfl
  | c :: r => by
    have := hexS_len r
    simp only [hexS, List.flatMap_cons, List.length_append, List.length_cons, List.length_nil] at this ⊢
    omega
theorem hexS_snoc {l : List UInt8} {i : Nat} (h : i < l.length) : hexS (l.take (i + 1)) = hexS (l.take i) ++ [hexD ((nth l i).toNat / 16), hexD ((nth l i).toNat % 16)] := by
  rw [take_nth h]; simp [hexS]
theorem l1Hex_ok (s : List UInt8) (hs : s.length ≤ 100000000000) : Fn Tryz.prog fn_spec_l1Hex [.str s] [] (.str (hexS s)) [] := by
  refine Fn.of_go ln_spec_l1Hex rfl ?_
  simp [ac_spec_l1Hex]
  refine go_loop (fun i => { env := [(0, .str s), (3, .sl (some 0) 1 ((hexS (s.take i)).map byteV)), (4, .int .i64 (i : Nat))], loc := [], box := [], stat := [(0, some (.own (hexS (s.take i)).length 1))] }) (fun i => i ≤ s.length) (fun i => s.length - i) 0 (by omega) (Weak.of [(0, some 80, 0, 1)] [] (by simp [hexS])) ?_
  intro i hi
  simp
  refine goTest_dec (fun hlt => ?_) (fun hge => ?_)
  · have hn := idx_nth hlt
    have hsn := hexS_snoc hlt
    have hlen := hexS_len (s.take i)
    have hu := (nth s i).toNat_lt
    have e0 : (((nth s i).toNat : Int)).tmod 16 = ((nth s i).toNat : Int) % 16 := Int.tmod_eq_emod_of_nonneg (by omega)
    have e1 : (((nth s i).toNat : Int) / 16).toNat = (nth s i).toNat / 16 := by omega
    have e2 : (((nth s i).toNat : Int) % 16).toNat = (nth s i).toNat % 16 := by omega
    simp [hlt, hn, e0, e1, e2]
    refine ⟨by omega, by omega, by omega, by simp [roomOk]; simp at hlen; omega, by omega, .mk (i + 1) hlt (by omega) (Weak.of [(0, some 0, (hexS (s.take i)).length + 2, 1)] [] (by simp [hsn, hexD]))⟩
  · obtain rfl : i = s.length := by omega
    simp [bytesOf_map]
    exact Ends.mk [] [] (by simp)
theorem and15 : ∀ c : Fin (2 ^ 8), bitsV .and .u8 (c.val : Int) 15 = ((c.val % 16 : Nat) : Int) := by decide +kernel
theorem hexOf_ok (s : List UInt8) (hs : s.length ≤ 100000000000) : Fn Tryz.prog fn_impl_hexOf [.str s] [] (.str (hexS s)) [] := by
  refine Fn.of_go ln_impl_hexOf rfl ?_
  simp [ac_impl_hexOf]
  refine ⟨by omega, ⟨by omega, by unfold roomOk; omega⟩, ?_⟩
  refine go_loop (fun i => { env := [(0, .str s), (3, .sl (some 0) 1 ((hexS (s.take i)).map byteV)), (4, .int .i64 (i : Nat))], loc := [], box := [], stat := [(0, some (.own (hexS (s.take i)).length 1))] }) (fun i => i ≤ s.length) (fun i => s.length - i) 0 (by omega) (Weak.of [(0, some 128, 0, 1)] [] (by simp [hexS])) ?_
  intro i hi
  simp
  refine goTest_dec (fun hlt => ?_) (fun hge => ?_)
  · have hn := idx_nth hlt
    have hsn := hexS_snoc hlt
    have hlen := hexS_len (s.take i)
    have hu := (nth s i).toNat_lt
    have e0 : (((nth s i).toNat : Int)).fdiv 16 = (((nth s i).toNat / 16 : Nat) : Int) := Int.fdiv_eq_ediv_of_nonneg _ (by omega)
    have e1 : bitsV .and .u8 ((nth s i).toNat : Int) 15 = (((nth s i).toNat % 16 : Nat) : Int) := and15 ⟨_, hu⟩
    simp [hlt, hn, e0, e1, -Int.natCast_ediv, -Int.natCast_emod]
    refine ⟨by decide, by omega, by omega, by simp [roomOk]; simp at hlen; omega, by omega, .mk (i + 1) hlt (by omega) (Weak.of [(0, some 0, (hexS (s.take i)).length + 2, 1)] [] (by simp [hsn, hexD]))⟩
  · obtain rfl : i = s.length := by omega
    simp [bytesOf_map]
    exact Ends.mk [] [] (by simp)
end
end Go.Proofs.YtjkbbdmkgealfaaGreatDoor
