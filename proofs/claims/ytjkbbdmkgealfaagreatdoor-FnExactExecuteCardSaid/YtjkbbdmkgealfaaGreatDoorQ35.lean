/-
  Last lines and complete lines.
  From a contract over abstract values to what a row asks: the start, and arguments that are read.
  The tables that the rows of this seat list (five of them).
-/
import Derived.Test.YtjkbbdmkgealfaaGreatDoorQ34
import Derived.Test.YtjkbbdmkgealfaaGreatDoorQ18
import Derived.ProofKit
import Derived.HandedShaped
import Derived.Carry
import Derived.ChangeMaps5
import Derived.Test.YtjkbbdmkgealfaaGreatDoorRows
import Derived.OpenShut
import Derived.Deep.DeepHandedRow
import Derived.Lib.LaidTab
import Derived.LaidSub
namespace Go.Proofs.YtjkbbdmkgealfaaGreatDoor
set_option linter.all false
section
set_option maxRecDepth 200000
set_option maxHeartbeats 8000000
attribute [-simp] List.getD_eq_getElem?_getD
def nlEnd (l : List UInt8) : Prop := l = [] ∨ ∃ a, l = a ++ [10]
theorem nlEnd.app {a b : List UInt8} (ha : nlEnd a) (hb : nlEnd b) : nlEnd (a ++ b) := by
  rcases hb with rfl | ⟨c, rfl⟩
  · simpa using ha
  · exact .inr ⟨a ++ c, by simp⟩
theorem textF_nl : ∀ l : List (Int × Int), nlEnd (textF l)
  | [] => .inl rfl
  | f :: r => by
    have := textF_nl r
    have e : textF (f :: r) = lineT f ++ textF r := rfl
    rw [e]
    refine nlEnd.app ?_ this
    exact .inr ⟨_, rfl⟩
theorem endT_nl (m : Monitor) : nlEnd (endT m) := by
  unfold endT
  exact (nlEnd.app (.inr ⟨[102, 111, 117, 110, 100, 32] ++ decS m.found.length, by simp⟩) (textF_nl m.found))
theorem reportT_nl (m : Monitor) : nlEnd (reportT m) := by
  unfold reportT
  split
  · rcases endT_nl m with h | ⟨a, h⟩
    · exfalso
      unfold endT at h
      simp at h
    · rw [h]
      exact .inr ⟨recT m ++ listT m.list ++ a, by simp⟩
  · exact .inl rfl
theorem lineD_nl (s : Desk) (line : List UInt8) : nlEnd (lineD s line).2 := by
  have h1 : nlEnd tWhat := .inr ⟨[119, 104, 97, 116], rfl⟩
  have h2 : nlEnd tOk := .inr ⟨[111, 107], rfl⟩
  have h3 : nlEnd tNo := .inr ⟨[110, 111], rfl⟩
  unfold lineD
  split
  · split
    · unfold sayD; split
      · exact h2
      · exact h3
    · exact h1
  · split
    · unfold changeD; split
      · exact h2
      · exact h3
    · exact h1
  · split
    · exact .inr ⟨_, rfl⟩
    · split
      · exact reportT_nl _
      · exact h1
  · exact h1
theorem runD_nl : ∀ (l : List (List UInt8)) (s : Desk), nlEnd (runD s l).2
  | [], s => .inl rfl
  | x :: r, s => (lineD_nl s x).app (runD_nl r _)
theorem count_nono (n : Nat) : 10 ∉ tRecords ++ decS n := by
  have h := decS_no n
  simp [tRecords]
  simpa using h
theorem linesD_cut {a b : List UInt8} (hb : 10 ∉ b) : linesD (a ++ 10 :: b) = cutAll 10 a := by
  unfold linesD
  rw [cutAll_mid, cutAll_notin hb]
  simp
theorem linesD_none {b : List UInt8} (hb : 10 ∉ b) : linesD b = [] := by
  unfold linesD
  rw [cutAll_notin hb]
  rfl
theorem last_nl : ∀ l : List UInt8, 10 ∈ l → ∃ a b, l = a ++ 10 :: b ∧ 10 ∉ b
  | [], h => by simp at h
  | x :: r, h => by
    by_cases q : 10 ∈ r
    · obtain ⟨a, b, e, hb⟩ := last_nl r q
      exact ⟨x :: a, b, by simp [e], hb⟩
    · rcases List.mem_cons.1 h with rfl | h
      · exact ⟨[], r, rfl, q⟩
      · exact absurd h q
theorem toNat_ne {c : UInt8} (h : c ≠ 10) : ¬ c.toNat = 10 := fun e => h (UInt8.toNat_inj.1 e)
theorem getD_ne {t b : List UInt8} (hb : 10 ∉ b) {i k : Nat} (hi : k < b.length) (he : t.getD i 0 = b.getD k 0) : ¬ (t.getD i 0).toNat = 10 := by
  rw [he]
  refine toNat_ne fun e => hb ?_
  rw [← e, getD_nth hi]
  exact nth_mem hi
theorem lastLine_ok (a b : List UInt8) (ha : nlEnd a) (hb : 10 ∉ b) (hl : a.length + b.length ≤ 1000000000000) : Fn Tryz.prog fn_laws_lastLine [.str (a ++ b ++ [10])] [] (.str (b ++ [10])) [] := by
  have hlen : (a ++ b ++ [10]).length = a.length + b.length + 1 := by simp; omega
  have hget : ∀ j, a.length ≤ j → j < a.length + b.length → ¬ ((a ++ b ++ [10]).getD j 0).toNat = 10 := fun j h1 h2 => by
    refine getD_ne (k := j - a.length) hb (by omega) ?_
    rw [List.getD_eq_getElem?_getD, List.getD_eq_getElem?_getD, List.append_assoc, List.getElem?_append_right h1, List.getElem?_append_left (by omega)]
  have hlast : 0 < a.length → ((a ++ b ++ [10]).getD (a.length - 1) 0).toNat = 10 := fun h => by
    rcases ha with rfl | ⟨c, rfl⟩
    · simp at h
    · rw [List.getD_eq_getElem?_getD, List.append_assoc, List.getElem?_append_left (by omega)]
      simp
  have hdrop : (a ++ b ++ [10]).drop a.length = b ++ [10] := by rw [List.append_assoc]; exact List.drop_left
  have hz : a.length = 0 → a ++ b ++ [10] = b ++ [10] := fun h => by rw [List.eq_nil_of_length_eq_zero h]; rfl
  generalize a ++ b ++ [10] = t at *
  generalize a.length = n at *
  refine Fn.of_go ln_laws_lastLine rfl ?_
  simp [ac_laws_lastLine, hlen]
  refine ⟨by omega, ?_⟩
  refine go_loop (fun j : Nat => { env := [(0, .str t), (3, .int .i64 ((j : Int) - 1))], loc := [], box := [], stat := [] }) (fun j => n ≤ j ∧ j ≤ n + b.length) (fun j => j) (n + b.length) (by omega) (Weak.of [] [] (by simp; omega)) ?_
  rintro j ⟨h1, h2⟩
  simp
  refine goTest_dec (fun hge => ?_) (fun hlt => ?_)
  · obtain ⟨k, rfl⟩ : ∃ k, j = k + 1 := ⟨j - 1, by omega⟩
    have e1 : ((k + 1 : Nat) : Int) - 1 = k := by omega
    simp [hlen]
    refine ⟨by omega, ?_⟩
    by_cases q : k + 1 = n
    · have := hlast (by omega)
      rw [← q, Nat.add_sub_cancel] at this
      simp [this]
      refine ⟨by omega, by omega, Ends.mk [] [] (by simp [← hdrop, ← q])⟩
    · have := hget k (by omega) (by omega)
      simp [this]
      refine ⟨by omega, Again.mk k ⟨by omega, by omega⟩ (by simp) (Weak.of [] [] (by simp))⟩
  · obtain rfl : j = 0 := by omega
    simp
    exact Ends.mk [] [] (by simp [hz (by omega)])
theorem completeLines_ok1 (b : List UInt8) (hb : 10 ∉ b) (hl : b.length ≤ 1000000000000) : Fn Tryz.prog fn_laws_completeLines [.str b] [] (.str []) [] := by
  have hget : ∀ j, j < b.length → ¬ (b.getD j 0).toNat = 10 := fun j h => getD_ne hb h rfl
  refine Fn.of_go ln_laws_completeLines rfl ?_
  simp [ac_laws_completeLines]
  refine go_loop (fun j : Nat => { env := [(0, .str b), (3, .int .i64 (j : Nat))], loc := [], box := [], stat := [] }) (fun j => j ≤ b.length) (fun j => j) b.length (by omega) (Weak.of [] [] (by simp)) ?_
  intro j hj
  simp
  refine goTest_dec (fun hge => ?_) (fun hlt => ?_)
  · obtain ⟨k, rfl⟩ : ∃ k, j = k + 1 := ⟨j - 1, by omega⟩
    have := hget k (by omega)
    simp [this]
    refine ⟨by omega, by omega, by omega, Again.mk k (by omega) (by simp) (Weak.of [] [] (by simp))⟩
  · simp
    exact Ends.mk [] [] (by simp)
theorem completeLines_ok2 (a b : List UInt8) (hb : 10 ∉ b) (hl : a.length + b.length ≤ 1000000000000) : Fn Tryz.prog fn_laws_completeLines [.str (a ++ 10 :: b)] [] (.str (a ++ [10])) [] := by
  have hlen : (a ++ 10 :: b).length = a.length + 1 + b.length := by simp; omega
  have hget : ∀ j, a.length + 1 ≤ j → j < a.length + 1 + b.length → ¬ ((a ++ 10 :: b).getD j 0).toNat = 10 := fun j h1 h2 => by
    refine getD_ne (k := j - (a.length + 1)) hb (by omega) ?_
    rw [List.getD_eq_getElem?_getD, List.getD_eq_getElem?_getD, List.getElem?_append_right (by omega)]
    obtain ⟨k, rfl⟩ : ∃ k, j = a.length + 1 + k := ⟨j - (a.length + 1), by omega⟩
    have e1 : a.length + 1 + k - a.length = k + 1 := by omega
    have e2 : a.length + 1 + k - (a.length + 1) = k := by omega
    rw [e1, e2, List.getElem?_cons_succ]
  have hlast : ((a ++ 10 :: b).getD a.length 0).toNat = 10 := by
    rw [List.getD_eq_getElem?_getD, List.getElem?_append_right (by omega)]
    simp
  have htake : (a ++ 10 :: b).take (a.length + 1) = a ++ [10] := by
    rw [List.take_append]
    simp [List.take_of_length_le]
  generalize a ++ 10 :: b = t at *
  generalize a.length = n at *
  refine Fn.of_go ln_laws_completeLines rfl ?_
  simp [ac_laws_completeLines, hlen]
  refine go_loop (fun j : Nat => { env := [(0, .str t), (3, .int .i64 (j : Nat))], loc := [], box := [], stat := [] }) (fun j => n + 1 ≤ j ∧ j ≤ n + 1 + b.length) (fun j => j) (n + 1 + b.length) (by omega) (Weak.of [] [] (by simp)) ?_
  rintro j ⟨h1, h2⟩
  simp
  refine goTest_dec (fun hge => ?_) (fun hlt => by omega)
  obtain ⟨k, rfl⟩ : ∃ k, j = k + 1 := ⟨j - 1, by omega⟩
  by_cases q : k = n
  · subst q
    simp [hlast, hlen]
    refine ⟨by omega, by omega, by omega, Ends.mk [] [] (by simp [htake])⟩
  · have := hget k (by omega) (by omega)
    simp [this, hlen]
    refine ⟨by omega, by omega, by omega, Again.mk k ⟨by omega, by omega⟩ (by simp) (Weak.of [] [] (by simp))⟩
end
section
open Go.ChangeShapes Go.WideShapes Go.ChangeAt Go.RowKit
def γ0 : Ghost := ⟨fun _ => none, fun _ => none, fun _ => none, fun _ => False⟩
theorem hinv0 (w : World) : HInv (.ofGhost w γ0) (boxesOf []) [] γ0 w :=
  ⟨fun d cs hl => by simp [boxesOf, boxesFrom, lookB] at hl, ⟨fun d g hg => by simp [γ0] at hg, fun d g hg => by simp [Ctx.ofGhost, γ0] at hg⟩,
    fun σ top sz hs => by simp [lookS] at hs, fun g x hg => by simp [γ0] at hg, ⟨rfl, fun g hg => hg.elim⟩, ⟨rfl, rfl, rfl, Nat.le_refl _, fun _ _ _ => rfl, fun _ _ h => h⟩⟩
theorem Fn.calls {P : Program} {f : FuncId} {args : List V} {R : V} (hf : Fn P f args [] R []) (hargs : argStat args [] = []) (w : World) (vs : List Value) (hT : Tb (γ0.un w) w) (hc : CellsRel [] γ0 w args vs) :
    Calls P f vs.toArray w fun e w' => ∃ v γ', e = .returned v ∧ VRel (resStat R []) γ' w' R v ∧ Below w.heap.size w w' := by
  have h1 : HInv (.ofGhost w γ0) (boxesOf []) (argStat args []) γ0 w := by rw [hargs]; exact hinv0 w
  refine (hf w γ0 vs hT h1 (by rw [hargs]; exact hc)).mono fun e w' hex => ?_
  obtain ⟨v, γ', rfl, hH, hv⟩ := hex
  exact ⟨v, γ', rfl, hv, hH.frame.os, hH.frame.tape, hH.frame.output, hH.frame.size, fun g hg => hH.frame.same g hg (by simp [Ctx.ofGhost, γ0])⟩
theorem Fn.calls_true {P : Program} {f : FuncId} {args : List V} (hf : Fn P f args [] (.bool true) []) (hargs : argStat args [] = []) (w : World) (vs : List Value) (hT : Tb (γ0.un w) w) (hc : CellsRel [] γ0 w args vs) :
    Calls P f vs.toArray w fun e w' => e = .returned (.bool true) ∧ Below w.heap.size w w' := by
  refine (hf.calls hargs w vs hT hc).mono fun e w' hex => ?_
  obtain ⟨v, γ', rfl, hv, hb⟩ := hex
  refine ⟨?_, hb⟩
  cases hv with
  | base h => cases h with
    | bool b => rfl
theorem rel_one {w : World} {x : V} {v : Value} (h : VRel [] γ0 w x v) : CellsRel [] γ0 w [x] [v] :=
  ⟨rfl, fun k h1 h2 => by match k with | 0 => exact h⟩
theorem flat_bytes : ∀ l : List UInt8, flat (l.map byteV) = l.map byteV
  | [] => rfl
  | z :: r => by
    have := flat_bytes r
    unfold flat at this ⊢
    rw [List.map_cons, List.flatMap_cons, this]
    rfl
theorem rel_bytes {P : Program} {W : World} {base t e : Nat} {v : Value} (ht : P.underlying t = some (.slice e)) (hval : Value.okWide P W .any base t v)
    (h : v = .slice none 0 0 ∨ ∃ (a : Addr) (len cap : Nat) (zs : List Int), v = .slice (some a) len cap ∧ len ≤ cap ∧ cap ≤ maxLen ∧ len ≤ zs.length ∧
      (∀ i, i < zs.length → W.cell? (a.add i) = some (.int .u8 (zs.getD i 0))) ∧ ∀ n ∈ zs, (Lit.int .u8 n).wf = true) :
    ∃ l, VRel [] γ0 W (bsl l) v := by
  rcases h with rfl | ⟨a, len, cap, zs, rfl, hl, hm, hz, hcell, hwz⟩
  · exact ⟨[], .base (.slnil 1)⟩
  · have hh : W.has P .any base a e cap := by
      simp only [Value.okWide, ht, Cell.okWide, Cell.ok] at hval
      exact hval.2.2
    obtain ⟨_, hsp, row, cells, hsh, _⟩ := hh
    obtain ⟨b, off, spot⟩ := a
    simp only at hsp
    subst hsp
    have hblk : ∃ c e fr, W.heap[b]? = some (.cells c e fr) := by
      simp only [World.shape?] at hsh
      cases hb : W.heap[b]? with
      | none => rw [hb] at hsh; simp at hsh
      | some o =>
        rw [hb] at hsh
        cases o with
        | cells c e fr => exact ⟨c, e, fr, rfl⟩
        | _ => simp at hsh
    obtain ⟨c, e', fr, hg⟩ := hblk
    have hr : ∀ n ∈ zs, 0 ≤ n ∧ n ≤ 255 := fun n hn => by
      have := hwz n hn
      simpa [Lit.wf, IntKind.min, IntKind.max, IntKind.signed, IntKind.bits] using this
    obtain ⟨l, hll, hbv⟩ : ∃ l : List UInt8, l.length = len ∧ ∀ i (h : i < l.length), W.cell? ⟨b, off + i, none⟩ = some (.int .u8 (l[i].toNat : Int)) := by
      refine ⟨(zs.take len).map (fun z => UInt8.ofNat z.toNat), by simp; omega, fun i hi => ?_⟩
      have hi2 : i < zs.length := by simp at hi; omega
      have h1 := hcell i hi2
      have e1 : zs.getD i 0 = zs[i] := by rw [List.getD_eq_getElem?_getD, List.getElem?_eq_getElem hi2]; rfl
      obtain ⟨h2, h3⟩ := hr _ (List.getElem_mem hi2)
      rw [e1] at h1
      have e2 : ((zs.take len).map (fun z => UInt8.ofNat z.toNat))[i] = UInt8.ofNat zs[i].toNat := by simp
      rw [e2, UInt8.toNat_ofNat_of_lt' (by simp [UInt8.size]; omega), Int.toNat_of_nonneg h2]
      have e3 : Addr.add ⟨b, off, none⟩ i = ⟨b, off + i, none⟩ := by unfold Addr.add; split <;> simp_all
      rw [← e3]; exact h1
    have hfl : flat (l.map byteV) = l.map byteV := flat_bytes l
    have key := PRel.sl (O := γ0.O) (w := W) 1 (l.map byteV) b off cap c e' fr (l.map fun z => Value.int .u8 (z.toNat : Int)) hg (by simp [Ghost.O, γ0]) (by simpa [hll] using hl) hm
      (fun x hx => by
        obtain ⟨u, _, rfl⟩ := List.mem_map.1 hx
        rfl) (by rw [hfl]; simp) (fun k hk => ?_) (fun u hu => ?_) (fun k h1 h2 => ?_)
    · have e2 : (l.map byteV).length = len := by simpa using hll
      rw [e2] at key
      exact ⟨l, .base key⟩
    · have hk2 : k < l.length := by simpa using hk
      have h1 := hbv k hk2
      simp only [World.cell?, hg] at h1
      rw [List.getElem?_map, List.getElem?_eq_getElem hk2]
      simpa using h1
    · obtain ⟨z, _, rfl⟩ := List.mem_map.1 hu
      rfl
    · simp only [hfl, List.getElem_map, byteV]
      exact .int _ _
theorem open_bytes {H : Type} {enc : TypeId × Value → H} {P : Program} {W : World} {base t e : Nat} {v : Value} {d : DataW H} {ps : List MemPlace} (ht : P.underlying t = some (.slice e)) (he : P.underlying e = some (.int .u8)) (hc : P.cellsOf e = 1)
    (hval : Value.okWide P W .any base t v) (h0 : DataW.Trod enc P W 0 (fun _ => true) true t v d ps) : ∃ l, VRel [] γ0 W (bsl l) v := by
  obtain ⟨fuel, hf⟩ := h0
  refine rel_bytes ht hval ?_
  obtain ⟨a0, len, cap, rfl⟩ := okWide_slice ht hval
  rcases open_ints ht he hc hf with ⟨hcs, hx⟩ | ⟨a, len', cap', zs, hcs, _, hl, hm, hz, hx, hcell, hwz⟩
  · simp [Value.cells] at hcs
    obtain ⟨rfl, rfl, rfl⟩ := hcs
    exact .inl rfl
  · simp [Value.cells] at hcs
    obtain ⟨rfl, rfl, rfl⟩ := hcs
    simp only [if_true] at hz
    exact .inr ⟨a, len, cap, zs, rfl, hl, hm, by omega, hcell, hwz⟩
end
section
open Go.ChangeShapes Go.WideShapes Go.ChangeAt Go.RowKit
theorem own : ownKnob Tryz.prog.godebug = none := by kernel_rfl
theorem laidOut : laidOutB Tryz.prog = true := by kernel_rfl
theorem gTab : Tryz.prog.globalNamed "internal/strconv.uint64pow10" = some 1 := by kernel_rfl
theorem gTabType : (Tryz.prog.globals[1]?).map (·.type) = some 188 := by kernel_rfl
theorem pow10_of {W : World} (h : laidMetH Tryz.prog [("math/bits.deBruijn32tab", Rows.laid_math_bits_deBruijn32tab), ("math/bits.deBruijn64tab", Rows.laid_math_bits_deBruijn64tab), ("internal/strconv.uint64pow10", Rows.laid_internal_strconv_uint64pow10), ("unicode/utf8.acceptRanges", Rows.laid_unicode_utf8_acceptRanges), ("unicode/utf8.first", Rows.laid_unicode_utf8_first)] W) :
    Lib.TabIs Tryz.prog W "internal/strconv.uint64pow10" .u64 Lib.pow10Tab := by
  have h1 : laidMet Tryz.prog [("math/bits.deBruijn32tab", Rows.laid_math_bits_deBruijn32tab), ("math/bits.deBruijn64tab", Rows.laid_math_bits_deBruijn64tab), ("internal/strconv.uint64pow10", Rows.laid_internal_strconv_uint64pow10), ("unicode/utf8.acceptRanges", Rows.laid_unicode_utf8_acceptRanges), ("unicode/utf8.first", Rows.laid_unicode_utf8_first)] W := h
  have h2 := _root_.Go.laidMet.filter (fun x => x.1 == "internal/strconv.uint64pow10") h1
  exact Lib.tabIs_of_head (rest := []) gTab gTabType Tryz.underlying188 Tryz.underlying151 (by kernel_rfl) (by kernel_rfl) h2
theorem tabsD {W : World} (h : Lib.TabIs Tryz.prog W "internal/strconv.uint64pow10" .u64 Lib.pow10Tab) (hsh : W.ShapedOpen Tryz.prog) : Tb (γ0.un W) W where
  maxLen := by
    obtain ⟨m, hm⟩ : ∃ m, W.cell? ⟨0, 0, none⟩ = some (.int .i64 m) := Tryz.laysM146.s1_3 W hsh
    refine ⟨⟨?_, rfl⟩, m, hm⟩
    rcases Nat.lt_or_ge 0 W.heap.size with h | h
    · exact h
    · simp [World.cell?, Array.getElem?_eq_none h] at hm
  pow10 := by
    simp only [Lib.TabIs, World.var?, gTab, Option.bind_some] at h
    cases hb : W.heap[1]? with
    | none => rw [hb] at h; cases h
    | some o =>
      rw [hb] at h
      cases o with
      | cells c e fr =>
        obtain rfl := Option.some.inj h
        refine ⟨⟨?_, rfl⟩, e, fr, hb⟩
        rcases Nat.lt_or_ge 1 W.heap.size with h | h
        · exact h
        · rw [Array.getElem?_eq_none h] at hb; cases hb
      | _ => cases h
def cellsOfEl : DataW Unit → List Value
  | .lit (.int k n) => [.int k n]
  | .agg l => l.map fun d => match d with
    | .lit (.int k n) => Value.int k n
    | _ => .bool false
  | _ => []
def cellsOfTab : DataW Unit → Array Value
  | .agg l => (l.flatMap cellsOfEl).toArray
  | _ => #[]
def layTab (h : Array Obj) (g : Nat) (d : DataW Unit) : Array Obj := h.modify g fun o => match o with
  | .cells _ t fr => .cells (cellsOfTab d) t fr
  | o => o
noncomputable def laidWorld (os : Os) : World :=
  { World.holding Tryz.prog os ⟨#[], #[], []⟩ with heap := layTab (layTab (layTab (layTab (layTab (World.holding Tryz.prog os ⟨#[], #[], []⟩).heap 1 Rows.laid_internal_strconv_uint64pow10) 4 Rows.laid_math_bits_deBruijn32tab) 5 Rows.laid_math_bits_deBruijn64tab) 3 Rows.laid_unicode_utf8_acceptRanges) 2 Rows.laid_unicode_utf8_first }
end
end Go.Proofs.YtjkbbdmkgealfaaGreatDoor
