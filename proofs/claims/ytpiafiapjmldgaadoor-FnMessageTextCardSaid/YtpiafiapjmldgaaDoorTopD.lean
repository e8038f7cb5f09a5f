/-
  The tables that the rows of this seat list, and arguments that are structs or slices of structs.
-/
import Derived.Test.YtpiafiapjmldgaaDoorTop
import Derived.Test.YtpiafiapjmldgaaDoorRows
import Derived.Test.YtpiafiapjmldgaaDoorD2
import Derived.OpenShut
import Derived.Deep.DeepHandedRow
import Derived.Lib.LaidTab
import Derived.LaidSub
namespace Go.Proofs.YtpiafiapjmldgaaDoor
open Go.ChangeShapes Go.WideShapes Go.ChangeAt Go.RowKit
set_option linter.all false

theorem own : ownKnob Tryd.prog.godebug = none := by kernel_rfl
theorem laidOut : laidOutB Tryd.prog = true := by kernel_rfl
theorem gTab : Tryd.prog.globalNamed "internal/strconv.uint64pow10" = some 1 := by kernel_rfl
theorem gTabType : (Tryd.prog.globals[1]?).map (·.type) = some 86 := by kernel_rfl

theorem pow10_of {W : World} (h : laidMetH Tryd.prog [("math/bits.deBruijn32tab", Rows.laid_math_bits_deBruijn32tab), ("math/bits.deBruijn64tab", Rows.laid_math_bits_deBruijn64tab), ("internal/strconv.uint64pow10", Rows.laid_internal_strconv_uint64pow10)] W) :
    Lib.TabIs Tryd.prog W "internal/strconv.uint64pow10" .u64 Lib.pow10Tab := by
  have h1 : laidMet Tryd.prog [("math/bits.deBruijn32tab", Rows.laid_math_bits_deBruijn32tab), ("math/bits.deBruijn64tab", Rows.laid_math_bits_deBruijn64tab), ("internal/strconv.uint64pow10", Rows.laid_internal_strconv_uint64pow10)] W := h
  have h2 := _root_.Go.laidMet.filter (fun x => x.1 == "internal/strconv.uint64pow10") h1
  exact Lib.tabIs_of_head (rest := []) gTab gTabType Tryd.underlying86 Tryd.underlying79 (by kernel_rfl) (by kernel_rfl) h2

theorem tabsD {W : World} (h : Lib.TabIs Tryd.prog W "internal/strconv.uint64pow10" .u64 Lib.pow10Tab) (hsh : W.ShapedOpen Tryd.prog) : Tb (γ0.un W) W where
  maxLen := by
    obtain ⟨m, hm⟩ : ∃ m, W.cell? ⟨0, 0, none⟩ = some (.int .i64 m) := Tryd.laysM145.s1_3 W hsh
    refine ⟨⟨?_, rfl⟩, m, hm⟩
    rcases Nat.lt_or_ge 0 W.heap.size with h | h
    · exact h
    · simp [World.cell?, Array.getElem?_eq_none h] at hm
  pow10 := by
    simp only [Lib.TabIs, World.var?, gTab, Option.bind_some] at h
    cases hb : W.heap[1]? with
    | none => rw [hb] at h; cases h
    | some o =>
      rw [hb] at h
      cases o with
      | cells c e fr =>
        obtain rfl := Option.some.inj h
        refine ⟨⟨?_, rfl⟩, e, fr, hb⟩
        rcases Nat.lt_or_ge 1 W.heap.size with h | h
        · exact h
        · rw [Array.getElem?_eq_none h] at hb; cases hb
      | _ => cases h

/-- The cells of a table that a row lists. -/
def cellsOfTab : DataW Unit → Array Value
  | .agg l => (l.map fun d => match d with
    | .lit (.int k n) => Value.int k n
    | _ => .bool false).toArray
  | _ => #[]

def layTab (h : Array Obj) (g : Nat) (d : DataW Unit) : Array Obj := h.modify g fun o => match o with
  | .cells _ t fr => .cells (cellsOfTab d) t fr
  | o => o

/-- A world that holds the tables. -/
noncomputable def laidWorld (os : Os) : World :=
  { World.holding Tryd.prog os ⟨#[], #[], []⟩ with heap := layTab (layTab (layTab (World.holding Tryd.prog os ⟨#[], #[], []⟩).heap 1 Rows.laid_internal_strconv_uint64pow10) 2 Rows.laid_math_bits_deBruijn32tab) 3 Rows.laid_math_bits_deBruijn64tab }

section
variable {P : Program} {W : World} {base : Nat}

theorem ok_int {t : Nat} {k : IntKind} {v : Value} (ht : P.underlying t = some (.int k)) (h : Cell.okWide P W .any base t v) : ∃ n, v = .int k n := by
  simp only [Cell.okWide, Cell.ok, ht] at h
  cases v <;> simp at h
  exact ⟨_, by rw [h.1]⟩

theorem ok_bool {t : Nat} {v : Value} (ht : P.underlying t = some .bool) (h : Cell.okWide P W .any base t v) : ∃ b, v = .bool b := by
  simp only [Cell.okWide, Cell.ok, ht] at h
  cases v <;> simp at h
  exact ⟨_, rfl⟩

theorem ok_string {t : Nat} {v : Value} (ht : P.underlying t = some .string) (h : Cell.okWide P W .any base t v) : ∃ s : ByteArray, v = .string s ∧ s.size ≤ 9223372036854775807 := by
  simp only [Cell.okWide, Cell.ok, ht] at h
  cases v <;> simp at h
  exact ⟨_, rfl, h⟩

theorem array_four {α : Type} {cs : Array α} (h : cs.size = 4) : ∃ a b c d, cs = #[a, b, c, d] := by
  obtain ⟨l⟩ := cs
  match l, h with
  | [a, b, c, d], _ => exact ⟨a, b, c, d, rfl⟩

/-- An argument that is a message. -/
theorem open_msg {t ti tb ts : Nat} {fs : Array Field} {v : Value} (ht : P.underlying t = some (.struct fs)) (hc : P.cellTypes P.depth t = some [ti, ti, tb, ts]) (hsz : P.cellsOf t = 4)
    (hi : P.underlying ti = some (.int .i64)) (hb : P.underlying tb = some .bool) (hs : P.underlying ts = some .string) (hval : Value.okWide P W .any base t v) :
    ∃ m : Msg, (m.text.length : Int) ≤ 9223372036854775807 ∧ VRel [] γ0 W (mV m) v := by
  simp only [Value.okWide, ht] at hval
  obtain ⟨cs, rfl, hz, tys, h1, _, h2⟩ := hval
  rw [hc] at h1
  obtain rfl := Option.some.inj h1
  rw [hsz] at hz
  obtain ⟨a, b, c, d, rfl⟩ := array_four hz
  obtain ⟨u0, e0, o0⟩ := h2 0 a rfl
  obtain ⟨u1, e1, o1⟩ := h2 1 b rfl
  obtain ⟨u2, e2, o2⟩ := h2 2 c rfl
  obtain ⟨u3, e3, o3⟩ := h2 3 d rfl
  simp at e0 e1 e2 e3
  subst e0; subst e1; subst e2; subst e3
  obtain ⟨n0, rfl⟩ := ok_int hi o0
  obtain ⟨n1, rfl⟩ := ok_int hi o1
  obtain ⟨b2, rfl⟩ := ok_bool hb o2
  obtain ⟨s3, rfl, hl⟩ := ok_string hs o3
  refine ⟨⟨n0, n1, b2, s3.data.toList⟩, ?_, .base (.agg [_, _, _, _] [_, _, _, _] rfl fun k h1 h2 => ?_)⟩
  · have e5 : s3.data.toList.length = s3.size := Array.length_toList
    show (s3.data.toList.length : Int) ≤ _
    rw [e5]; omega
  · match k with
    | 0 => exact .int _ _
    | 1 => exact .int _ _
    | 2 => exact .bool _
    | 3 => exact .str _ _ rfl
end

section
variable {H : Type} {enc : TypeId × Value → H} {P : Program} {W : World} {base : Nat}

theorem flat_finds : ∀ l : List (Int × Int), flat (l.map fV) = l.flatMap fun f => [V.int .i64 f.1, V.int .i64 f.2]
  | [] => rfl
  | f :: r => by
    have := flat_finds r
    unfold flat at this ⊢
    rw [List.map_cons, List.flatMap_cons, List.flatMap_cons, this]
    rfl

theorem pair_get {α : Type} {f g : Int × Int → α} : ∀ (l : List (Int × Int)) (k : Nat), (l.flatMap fun x => [f x, g x])[k]? = if k % 2 = 0 then l[k / 2]?.map f else l[k / 2]?.map g
  | [], k => by simp
  | x :: r, 0 => by simp
  | x :: r, 1 => by simp
  | x :: r, k + 2 => by
    have ih := pair_get (f := f) (g := g) r k
    have e1 : (k + 2) % 2 = k % 2 := by omega
    have e2 : (k + 2) / 2 = k / 2 + 1 := by omega
    simp only [List.flatMap_cons, List.cons_append, List.nil_append, List.getElem?_cons_succ, e1, e2, ih]

theorem pair_len {α : Type} {f g : Int × Int → α} : ∀ (l : List (Int × Int)), (l.flatMap fun x => [f x, g x]).length = 2 * l.length
  | [] => rfl
  | x :: r => by simp [List.flatMap_cons, pair_len r]; omega

theorem ex_list {n : Nat} {p : Nat → Int × Int → Prop} : ∀ m, m ≤ n → (∀ i, i < n → ∃ x, p i x) → ∃ l : List (Int × Int), l.length = m ∧ ∀ i (h : i < l.length), p i l[i]
  | 0, _, _ => ⟨[], rfl, fun i h => by simp at h⟩
  | m + 1, hm, h => by
    obtain ⟨l, h1, h2⟩ := ex_list m (by omega) h
    obtain ⟨x, hx⟩ := h m (by omega)
    refine ⟨l ++ [x], by simp [h1], fun i hi => ?_⟩
    rcases Nat.lt_or_ge i l.length with q | q
    · rw [List.getElem_append_left q]; exact h2 i q
    · have : i = m := by simp at hi; omega
      subst this
      rw [List.getElem_append_right q]
      simp [h1, hx]

/-- An argument that is a slice of findings. -/
theorem open_finds {t e ti : Nat} {f0 f1 : Field} {v : Value} {d : DataW H} {ps : List MemPlace} (ht : P.underlying t = some (.slice e)) (he : P.underlying e = some (.struct #[f0, f1])) (hc : P.cellsOf e = 2)
    (hi : P.underlying ti = some (.int .i64)) (hf : f0.type = ti ∧ f1.type = ti ∧ f0.offset = 0 ∧ f1.offset = 1 ∧ P.cellsOf ti = 1) (hval : Value.okWide P W .any base t v) (h0 : DataW.Trod enc P W 0 (fun _ => true) true t v d ps) :
    ∃ l : List (Int × Int), (l.length : Int) ≤ 9223372036854775807 ∧ VRel [] γ0 W (fsl l) v := by
  obtain ⟨fuel, hfu⟩ := h0
  obtain ⟨a0, len0, cap0, rfl⟩ := okWide_slice ht hval
  rcases DataW.trod_slice ht hfu with ⟨hcs, _⟩ | ⟨a, len, cap, elems, rest, n, _, hcs, _, _, hl, hm, hlen, hel, _⟩
  · simp [Value.cells] at hcs
    obtain ⟨rfl, rfl, rfl⟩ := hcs
    exact ⟨[], by simp, .base (.slnil 2)⟩
  · simp [Value.cells] at hcs
    obtain ⟨rfl, rfl, rfl⟩ := hcs
    have hh : W.has P .any base a e cap0 := by
      simp only [Value.okWide, ht, Cell.okWide, Cell.ok] at hval
      exact hval.2.2
    obtain ⟨_, hsp, row, cells, hsh, _⟩ := hh
    obtain ⟨b, off, spot⟩ := a
    simp only at hsp
    subst hsp
    have hblk : ∃ c e fr, W.heap[b]? = some (.cells c e fr) := by
      simp only [World.shape?] at hsh
      cases hb : W.heap[b]? with
      | none => rw [hb] at hsh; simp at hsh
      | some o =>
        rw [hb] at hsh
        cases o with
        | cells c e fr => exact ⟨c, e, fr, rfl⟩
        | _ => simp at hsh
    obtain ⟨c, e', fr, hg⟩ := hblk
    have hadd : ∀ o i, Addr.add ⟨b, o, none⟩ i = ⟨b, o + i, none⟩ := fun o i => by unfold Addr.add; split <;> simp_all
    have each : ∀ i, i < len0 → ∃ x : Int × Int, c[off + 2 * i]? = some (.int .i64 x.1) ∧ c[off + 2 * i + 1]? = some (.int .i64 x.2) := fun i hi2 => by
      have h1 := hel i hi2
      rw [hc, hadd] at h1
      have hs : ∃ y, elems[i]? = some y := ⟨_, List.getElem?_eq_getElem (by omega)⟩
      obtain ⟨y, hy⟩ := hs
      rw [hy, Option.bind_eq_some_iff] at h1
      obtain ⟨cs, h2, h3⟩ := h1
      obtain ⟨_, h4, h5⟩ := World.cells?_some h2
      obtain ⟨y0, y1, m, _, _, h6, h7⟩ := trod_struct2 he h3
      obtain ⟨q1, q2, q3, q4, q5⟩ := hf
      rw [q1, q3, q5] at h6
      rw [q2, q4, q5] at h7
      obtain ⟨x0, h8, _⟩ := DataW.trod_int hi h6
      obtain ⟨x1, h9, _⟩ := DataW.trod_int hi h7
      match cs, h4 with
      | [u0, u1], _ =>
        simp at h8 h9
        subst h8; subst h9
        have g0 := h5 0 (by omega)
        have g1 := h5 1 (by omega)
        rw [hadd] at g0 g1
        simp [World.cell?, hg] at g0 g1
        refine ⟨(x0, x1), ?_, ?_⟩
        · rw [← g0]; congr 1; omega
        · rw [← g1]; congr 1; omega
    obtain ⟨l, hl1, hl2⟩ := ex_list len0 (Nat.le_refl _) each
    have hfl := flat_finds l
    have hln : (l.map fV).length = len0 := by simpa using hl1
    have key := PRel.sl (O := γ0.O) (w := W) 2 (l.map fV) b off cap0 c e' fr (l.flatMap fun f => [Value.int .i64 f.1, Value.int .i64 f.2]) hg (by simp [Ghost.O, γ0]) (by rw [hln]; exact hl) hm
      (fun x hx => by
        obtain ⟨u, _, rfl⟩ := List.mem_map.1 hx
        rfl) (by rw [hfl, pair_len, pair_len]) (fun k hk => ?_) (fun u hu => ?_) (fun k h1 h2 => ?_)
    · rw [hln] at key
      refine ⟨l, ?_, .base key⟩
      have : cap0 ≤ 9223372036854775807 := hm
      omega
    · rw [pair_len] at hk
      have hk2 : k / 2 < l.length := by omega
      obtain ⟨p1, p2⟩ := hl2 (k / 2) hk2
      rw [pair_get, List.getElem?_eq_getElem hk2]
      by_cases hp : k % 2 = 0
      · rw [if_pos hp]
        rw [show off + k = off + 2 * (k / 2) by omega, p1]; rfl
      · rw [if_neg hp]
        rw [show off + k = off + 2 * (k / 2) + 1 by omega, p2]; rfl
    · obtain ⟨x, _, hx⟩ := List.mem_flatMap.1 hu
      simp at hx
      rcases hx with rfl | rfl <;> rfl
    · have hk : k < 2 * l.length := by rw [pair_len] at h2; exact h2
      have hk2 : k / 2 < l.length := by omega
      have r1 := pair_get (f := fun x => V.int .i64 x.1) (g := fun x => V.int .i64 x.2) l k
      have r2 := pair_get (f := fun x => Value.int .i64 x.1) (g := fun x => Value.int .i64 x.2) l k
      have r3 : (flat (l.map fV))[k]? = if k % 2 = 0 then l[k / 2]?.map (fun x => V.int .i64 x.1) else l[k / 2]?.map (fun x => V.int .i64 x.2) := by rw [hfl]; exact r1
      rw [List.getElem?_eq_getElem hk2] at r2 r3
      rw [List.getElem?_eq_getElem h1] at r3
      rw [List.getElem?_eq_getElem h2] at r2
      by_cases hp : k % 2 = 0
      · rw [if_pos hp] at r2 r3
        rw [Option.some.inj r2, Option.some.inj r3]; exact .int _ _
      · rw [if_neg hp] at r2 r3
        rw [Option.some.inj r2, Option.some.inj r3]; exact .int _ _
end

end Go.Proofs.YtpiafiapjmldgaaDoor
