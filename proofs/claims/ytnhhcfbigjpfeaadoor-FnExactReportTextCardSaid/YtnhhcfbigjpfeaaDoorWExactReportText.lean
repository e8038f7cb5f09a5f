/-
  The law 'FnExactReportText' is proved: it returns true whatever the input, and the input reads as it did. What the listed variables of the library hold is tied to the program's text by the given card.
-/
import Derived.Test.YtnhhcfbigjpfeaaDoorQ27
import Derived.Test.YtnhhcfbigjpfeaaDoorCards
import Derived.Test.YtnhhcfbigjpfeaaDoorTie
namespace Go.Proofs.YtnhhcfbigjpfeaaDoor
set_option linter.all false
section
set_option maxRecDepth 100000
def ac_laws_FnExactReportText : AF := ⟨[0, 1, 2, 3, 4, 5, 6, 11, 21, 26], [.t 2],
  .seq (.region [⟨(.g 1), .box (.g 0), none⟩, ⟨(.g 2), .mv (.c (.bool false)), none⟩])
  (.seq (.region [⟨(.g 3), .mv (.c (.int .i64 1048576)), none⟩])
  (.seq (.region [⟨(.l 7), .load true 3 (.g 1), none⟩, ⟨(.l 8), .mv (.g 3), none⟩, ⟨(.l 9), .call fn_laws_szMonitor [(.l 7), (.l 8)], none⟩, ⟨(.g 3), .mv (.l 9), none⟩])
  (.seq (.seq (.region [⟨(.l 10), .mv (.g 3), none⟩, ⟨(.g 11), .bin .lss (.l 10) (.c (.int .i64 0)), none⟩])
  (.cond (.g 11) (.seq (.region [⟨(.g 2), .mv (.c (.bool true)), none⟩])
   (.ret))
  (.skip)))
  (.seq (.region [⟨(.l 12), .load true 3 (.g 1), none⟩, ⟨(.l 13), .call fn_laws_toMonitor [(.l 12)], none⟩, ⟨(.l 14), .call fn_spec_ReportText [(.l 13)], none⟩, ⟨(.g 4), .mv (.l 14), none⟩])
  (.seq (.region [⟨(.l 15), .load true 3 (.g 1), none⟩, ⟨(.l 16), .call fn_laws_toMonitor [(.l 15)], none⟩, ⟨(.g 5), .alloc [(.int .i64 0), .nils, .nils], none⟩, ⟨.no, .store 3 (.g 5) (.l 16), none⟩])
  (.seq (.region [⟨(.l 17), .load true 3 (.g 5), none⟩, ⟨(.l 18), .call fn_impl_ReportText [(.l 17)], none⟩, ⟨(.g 6), .mv (.l 18), none⟩])
  (.seq (.seq (.region [⟨(.l 19), .mv (.g 6), none⟩, ⟨(.l 20), .mv (.g 4), none⟩, ⟨(.g 21), .bin .neq (.l 19) (.l 20), none⟩])
  (.cond (.g 21) (.seq (.region [⟨(.g 2), .mv (.c (.bool false)), none⟩])
   (.ret))
  (.skip)))
  (.seq (.seq (.drawn [⟨(.l 22), .load true 3 (.g 5), none⟩, ⟨(.l 23), .load true 3 (.g 1), none⟩, ⟨(.l 24), .call fn_laws_toMonitor [(.l 23)], none⟩] [[], [0], [0]] [⟨(.l 25), .call fn_laws_eqMonitor [(.l 22), (.l 24)], none⟩, ⟨(.g 26), .un .not (.l 25), none⟩])
  (.cond (.g 26) (.seq (.region [⟨(.g 2), .mv (.c (.bool false)), none⟩])
   (.ret))
  (.skip)))
  (.seq (.region [⟨(.g 2), .mv (.c (.bool true)), none⟩])
  (.ret))))))))))⟩
theorem ln_laws_FnExactReportText : Linked Tryd.prog fn_laws_FnExactReportText ac_laws_FnExactReportText := ⟨Tryd.f3, _, Tryd.func3, rfl, by kernel_rfl, by kernel_rfl, by kernel_rfl, by kernel_rfl⟩
end
end Go.Proofs.YtnhhcfbigjpfeaaDoor

namespace Go.Proofs.YtnhhcfbigjpfeaaDoor
set_option linter.all false
section
set_option maxRecDepth 200000
set_option maxHeartbeats 8000000
attribute [-simp] List.getD_eq_getElem?_getD

theorem FnExactReportText_ok (m : Monitor) (hr : m.raw) : Fn Tryd.prog fn_laws_FnExactReportText [m.v] [] (.bool true) [] := by
  refine Fn.of_go ln_laws_FnExactReportText rfl ?_
  have f1 := szMonitor_ok m hr
  have hs := fun h => szMn_small (m := m) h
  have f2 := fun h => toMonitor_ok m (hs h)
  have f3 := fun h => spec_ReportText_fat m (hs h).fat
  have f4 := fun h => impl_ReportText_fat m (hs h).fat
  have f5 := fun h => eqMonitor_ok m (hs h)
  simp only [mon_v] at f1 f2 f3 f4 f5
  simp [ac_laws_FnExactReportText, mon_v]
  refine goCall_eq f1 (by simp) ?_
  simp
  refine goTest_dec (fun h => ?_) (fun h => ?_)
  · simp
    exact Ends.mk [] [] (by simp)
  have hp : 0 ≤ szMn m 1048576 := by omega
  have f2 := f2 hp
  have f3 := f3 hp
  have f4 := f4 hp
  have f5 := f5 hp
  generalize reportT m = R at *
  simp
  refine goCall_eq f2 (by simp) ?_
  simp
  refine goCall_eq f3 (by simp) ?_
  simp
  refine goCall_eq f2 (by simp) ?_
  simp
  refine goCall_eq f4 (by simp) ?_
  simp
  refine goDCall_eq f2 (by simp) (by simp) ?_
  simp
  refine goCall_eq f5 (by simp) ?_
  simp
  exact Ends.mk [] [] (by simp)
end
end Go.Proofs.YtnhhcfbigjpfeaaDoor

namespace Go.Proofs.YtnhhcfbigjpfeaaDoor
set_option linter.all false
section
open Go.ChangeShapes Go.WideShapes Go.ChangeAt Go.RowKit
set_option maxRecDepth 100000

section
variable {H : Type} {enc : TypeId × Value → H} {P : Program} {W : World}

/-- Cells that read as abstract cells. -/
structure Reads (W : World) (xs : List V) (us : List Value) : Prop where
  len : us.length = xs.length
  one : ∀ u ∈ us, u.oneCell' = true
  rel : ∀ k (h1 : k < xs.length) (h2 : k < us.length), PRel γ0.O W xs[k] us[k]

theorem flat_agg_get {α : Type} {cl : α → List V} {sz : Nat} (hsz : ∀ x, (cl x).length = sz) : ∀ (l : List α) (i j : Nat) (x : α), l[i]? = some x → j < sz → (flat (l.map fun x => V.agg (cl x)))[i * sz + j]? = (cl x)[j]?
  | [], i, j, x, h, hj => by simp at h
  | y :: r, 0, j, x, h, hj => by
    obtain rfl : y = x := by simpa using h
    rw [List.map_cons, flat_cons, Nat.zero_mul, Nat.zero_add, List.getElem?_append_left (by simp [V.cells, hsz]; exact hj)]
    rfl
  | y :: r, i + 1, j, x, h, hj => by
    have ih := flat_agg_get hsz r i j x (by simpa using h) hj
    have hy : (V.agg (cl y)).cells.length = sz := hsz y
    rw [List.map_cons, flat_cons, List.getElem?_append_right (by rw [hy, Nat.add_mul]; omega), hy]
    have : (i + 1) * sz + j - sz = i * sz + j := by rw [Nat.add_mul]; omega
    rw [this]
    exact ih

theorem ex_listG {α : Type} {n : Nat} {p : Nat → α → Prop} : ∀ m, m ≤ n → (∀ i, i < n → ∃ x, p i x) → ∃ l : List α, l.length = m ∧ ∀ i (h : i < l.length), p i l[i]
  | 0, _, _ => ⟨[], rfl, fun i h => by simp at h⟩
  | m + 1, hm, h => by
    obtain ⟨l, h1, h2⟩ := ex_listG m (by omega) h
    obtain ⟨x, hx⟩ := h m (by omega)
    refine ⟨l ++ [x], by simp [h1], fun i hi => ?_⟩
    rcases Nat.lt_or_ge i l.length with q | q
    · rw [List.getElem_append_left q]; exact h2 i q
    · have : i = m := by simp at hi; omega
      subst this
      rw [List.getElem_append_right q]
      simp [h1, hx]

theorem cell_spot {a : Addr} {u : Value} (h : W.cell? a = some u) : ∃ b off c e fr, a = ⟨b, off, none⟩ ∧ W.heap[b]? = some (.cells c e fr) := by
  obtain ⟨b, off, spot⟩ := a
  simp only [World.cell?] at h
  split at h
  · rename_i c e fr hb
    cases spot with
    | none => exact ⟨b, off, c, e, fr, rfl, hb⟩
    | some s => simp at h
  · cases h

/-- A slice whose elements read as abstract structs. -/
theorem read_slice {α : Type} {p : α → Prop} {cl : α → List V} {t e : TypeId} {sz : Nat} (ht : P.underlying t = some (.slice e)) (hc : P.cellsOf e = sz) (h0 : 0 < sz) (hsz : ∀ x, (cl x).length = sz)
    (hel : ∀ fuel cs y, DataW.trod enc P W 0 (fun _ => true) true fuel e cs = some y → cs.length = sz → ∃ x, p x ∧ Reads W (cl x) cs)
    {fuel : Nat} {v : Value} {y : DataW H × List MemPlace} (h : DataW.trod enc P W 0 (fun _ => true) true fuel t [v] = some y) :
    ∃ l : List α, (l.length : Int) ≤ 9223372036854775807 ∧ (∀ x ∈ l, p x) ∧ PRel γ0.O W (.sl none sz (l.map fun x => .agg (cl x))) v ∧ v.oneCell' = true := by
  rcases DataW.trod_slice ht h with ⟨hcs, _⟩ | ⟨a, len, cap, elems, rest, n, _, hcs, _, _, hl, hm, hlen, hel2, hrest, _⟩
  · obtain rfl : v = .slice none 0 0 := by simpa using hcs
    exact ⟨[], by simp, by simp, .slnil sz none, rfl⟩
  · obtain rfl : v = .slice (some a) len cap := by simpa using hcs
    by_cases hz : cap = 0
    · subst hz
      obtain rfl : len = 0 := by omega
      exact ⟨[], by simp, by simp, .slnil sz (some a), rfl⟩
    obtain ⟨hr1, hr2⟩ := hrest rfl
    have hfirst : ∃ u, W.cell? a = some u := by
      have key : ∃ cs, W.cells? 0 a sz = some cs := by
        by_cases hl0 : 0 < len
        · have h1 := hel2 0 hl0
          have hs : ∃ y, elems[0]? = some y := ⟨_, List.getElem?_eq_getElem (by omega)⟩
          obtain ⟨y0, hy⟩ := hs
          rw [hy, Option.bind_eq_some_iff] at h1
          obtain ⟨cs, h2, _⟩ := h1
          rw [hc, Nat.zero_mul] at h2
          exact ⟨cs, by simpa [Addr.add] using h2⟩
        · obtain rfl : len = 0 := by omega
          have h1 := hr2 0 (by omega)
          have hs : ∃ y, rest[0]? = some y := ⟨_, List.getElem?_eq_getElem (by omega)⟩
          obtain ⟨y0, hy⟩ := hs
          rw [hy, Option.bind_eq_some_iff] at h1
          obtain ⟨cs, h2, _⟩ := h1
          rw [hc] at h2
          exact ⟨cs, by simpa [Addr.add] using h2⟩
      obtain ⟨cs, h2⟩ := key
      obtain ⟨_, h4, h5⟩ := World.cells?_some h2
      have := h5 0 h0
      rw [List.getElem?_eq_getElem (by omega)] at this
      exact ⟨_, by simpa [Addr.add] using this⟩
    obtain ⟨u0, hu0⟩ := hfirst
    obtain ⟨b, off, c, e', fr, rfl, hg⟩ := cell_spot hu0
    have hadd : ∀ o i, Addr.add ⟨b, o, none⟩ i = ⟨b, o + i, none⟩ := fun o i => by unfold Addr.add; split <;> simp_all
    have each : ∀ i, i < len → ∃ x : α, p x ∧ ∃ cs : List Value, cs.length = sz ∧ Reads W (cl x) cs ∧ ∀ j, j < sz → c[off + i * sz + j]? = cs[j]? := fun i hi2 => by
      have h1 := hel2 i hi2
      rw [hc, hadd] at h1
      have hs : ∃ y, elems[i]? = some y := ⟨_, List.getElem?_eq_getElem (by omega)⟩
      obtain ⟨y0, hy⟩ := hs
      rw [hy, Option.bind_eq_some_iff] at h1
      obtain ⟨cs, h2, h3⟩ := h1
      obtain ⟨_, h4, h5⟩ := World.cells?_some h2
      obtain ⟨x, hp, hr⟩ := hel _ _ _ h3 h4
      refine ⟨x, hp, cs, h4, hr, fun j hj => ?_⟩
      have := h5 j hj
      rw [hadd] at this
      simpa [World.cell?, hg] using this
    obtain ⟨l, hl1, hl2⟩ := ex_listG len (Nat.le_refl _) each
    have hxs : ∀ x ∈ l.map (fun x => V.agg (cl x)), x.cells.length = sz := fun x hx => by
      obtain ⟨u, _, rfl⟩ := List.mem_map.1 hx
      exact hsz u
    have hfl : (flat (l.map fun x => V.agg (cl x))).length = len * sz := by rw [length_flat hxs]; simp [hl1]
    have hn : (l.map fun x => V.agg (cl x)).length = len := by simpa using hl1
    have hget : ∀ k, k < len * sz → ∃ u x, c[off + k]? = some u ∧ (flat (l.map fun x => V.agg (cl x)))[k]? = some x ∧ u.oneCell' = true ∧ PRel γ0.O W x u := fun k hk => by
      have hi : k / sz < l.length := by rw [hl1]; exact Nat.div_lt_of_lt_mul (by rw [Nat.mul_comm]; exact hk)
      have hj : k % sz < sz := Nat.mod_lt _ h0
      have hk2 : k = k / sz * sz + k % sz := by rw [Nat.mul_comm]; exact (Nat.div_add_mod k sz).symm
      obtain ⟨_, cs, q1, q2, q3⟩ := hl2 (k / sz) hi
      have r1 := q3 (k % sz) hj
      have r2 := flat_agg_get hsz l (k / sz) (k % sz) _ (List.getElem?_eq_getElem hi) hj
      rw [Nat.add_assoc, ← hk2, List.getElem?_eq_getElem (by omega)] at r1
      rw [← hk2] at r2
      exact ⟨_, _, r1, r2.trans (List.getElem?_eq_getElem (by rw [hsz]; exact hj)), q2.one _ (List.getElem_mem _), q2.rel _ (by rw [hsz]; exact hj) (by omega)⟩
    have key := PRel.sl (O := γ0.O) (w := W) sz (l.map fun x => V.agg (cl x)) b off cap c e' fr ((List.range (len * sz)).map fun k => (c[off + k]?).getD undef) hg (by simp [Ghost.O, γ0]) (by rw [hn]; exact hl) hm hxs (by rw [hfl]; simp)
      (fun k hk => by
        have hk' : k < len * sz := by simpa using hk
        obtain ⟨u, x, g1, _, _, _⟩ := hget k hk'
        simp [hk', g1])
      (fun u hu => by
        obtain ⟨k, hk, rfl⟩ := List.mem_map.1 hu
        obtain ⟨u, x, g1, _, g3, _⟩ := hget k (by simpa using hk)
        rw [g1]; exact g3)
      (fun k h1 h2 => by
        have hk' : k < len * sz := by simpa using h2
        obtain ⟨u, x, g1, g2, _, g4⟩ := hget k hk'
        rw [List.getElem?_eq_getElem h1] at g2
        rw [Option.some.inj g2]
        simpa [g1] using g4)
    rw [hn] at key
    refine ⟨l, ?_, fun x hx => ?_, key, rfl⟩
    · have : cap ≤ 9223372036854775807 := hm
      omega
    · obtain ⟨i, hi, rfl⟩ := List.getElem_of_mem hx
      exact (hl2 i hi).1

/-! ## Fields -/
variable {fs : Array Field} {n : Nat} {cs : List Value} {xs : List (DataW H × List MemPlace)}

theorem fld (hs : ∀ (i : Nat) (f : Field), fs[i]? = some f → DataW.trod enc P W 0 (fun _ => true) true n f.type ((cs.drop f.offset).take (P.cellsOf f.type)) = xs[i]?) (hl : xs.length = fs.size) {i : Nat} {f : Field} (hf : fs[i]? = some f) :
    ∃ y, DataW.trod enc P W 0 (fun _ => true) true n f.type ((cs.drop f.offset).take (P.cellsOf f.type)) = some y := by
  have hi : i < fs.size := (Array.getElem?_eq_some_iff.1 hf).1
  exact ⟨_, (hs i f hf).trans (List.getElem?_eq_getElem (by omega))⟩

theorem take1 {o : Nat} {v : Value} (h : (cs.drop o).take 1 = [v]) : cs[o]? = some v := by
  have := congrArg (fun l => l[0]?) h
  simpa [List.getElem?_take] using this

theorem fld_int {t o : Nat} {y : DataW H × List MemPlace} (hi : P.underlying t = some (.int .i64)) (h : DataW.trod enc P W 0 (fun _ => true) true n t ((cs.drop o).take 1) = some y) : ∃ k, cs[o]? = some (.int .i64 k) := by
  obtain ⟨k, h1, _⟩ := DataW.trod_int hi h
  exact ⟨k, take1 h1⟩
theorem fld_bool {t o : Nat} {y : DataW H × List MemPlace} (hi : P.underlying t = some .bool) (h : DataW.trod enc P W 0 (fun _ => true) true n t ((cs.drop o).take 1) = some y) : ∃ b, cs[o]? = some (.bool b) := by
  obtain ⟨k, h1, _⟩ := DataW.trod_bool hi h
  exact ⟨k, take1 h1⟩
theorem fld_str {t o : Nat} {y : DataW H × List MemPlace} (hi : P.underlying t = some .string) (h : DataW.trod enc P W 0 (fun _ => true) true n t ((cs.drop o).take 1) = some y) : ∃ s : ByteArray, cs[o]? = some (.string s) ∧ s.size ≤ maxLen := by
  obtain ⟨s, h1, _, h2⟩ := DataW.trod_string hi h
  exact ⟨s, take1 h1, h2⟩
end

section
variable {H : Type} {enc : TypeId × Value → H} {W : World}
abbrev TrodP (enc : TypeId × Value → H) (W : World) (fuel : Nat) (t : TypeId) (cs : List Value) (y : DataW H × List MemPlace) : Prop := DataW.trod enc Tryd.prog W 0 (fun _ => true) true fuel t cs = some y

theorem str_len (s : ByteArray) (h : s.size ≤ maxLen) : (s.data.toList.length : Int) ≤ 9223372036854775807 := by
  have e : s.data.toList.length = s.size := Array.length_toList
  have : s.size ≤ 9223372036854775807 := h
  rw [e]; omega

theorem reads_of {xs : List V} {us : List Value} (hl : us.length = xs.length) (h : ∀ (k : Nat) (x : V), xs[k]? = some x → ∃ u : Value, us[k]? = some u ∧ u.oneCell' = true ∧ PRel γ0.O W x u) : Reads W xs us := by
  refine ⟨hl, fun u hu => ?_, fun k h1 h2 => ?_⟩
  · obtain ⟨k, hk, rfl⟩ := List.getElem_of_mem hu
    obtain ⟨u, q1, q2, _⟩ := h k _ (List.getElem?_eq_getElem (by omega))
    rw [List.getElem?_eq_getElem hk] at q1
    rw [Option.some.inj q1]; exact q2
  · obtain ⟨u, q1, _, q3⟩ := h k _ (List.getElem?_eq_getElem h1)
    rw [List.getElem?_eq_getElem h2] at q1
    rw [Option.some.inj q1]; exact q3

theorem read_part (fuel : Nat) (cs : List Value) (y : DataW H × List MemPlace) (h : TrodP enc W fuel 112 cs y) (hl : cs.length = 7) : ∃ d : Part, (d.text.length : Int) ≤ 9223372036854775807 ∧ Reads W d.cells cs := by
  obtain ⟨xs, n, _, _, _, hx, hs⟩ := DataW.trod_struct Tryd.underlying112 h
  obtain ⟨_, q0⟩ := fld hs hx (i := 0) rfl
  obtain ⟨_, q1⟩ := fld hs hx (i := 1) rfl
  obtain ⟨_, q2⟩ := fld hs hx (i := 2) rfl
  obtain ⟨_, q3⟩ := fld hs hx (i := 3) rfl
  obtain ⟨_, q4⟩ := fld hs hx (i := 4) rfl
  obtain ⟨_, q5⟩ := fld hs hx (i := 5) rfl
  obtain ⟨_, q6⟩ := fld hs hx (i := 6) rfl
  obtain ⟨n0, a0⟩ := fld_int (o := 0) Tryd.underlying3 q0
  obtain ⟨n1, a1⟩ := fld_int (o := 1) Tryd.underlying3 q1
  obtain ⟨n2, a2⟩ := fld_int (o := 2) Tryd.underlying3 q2
  obtain ⟨b3, a3⟩ := fld_bool (o := 3) Tryd.underlying4 q3
  obtain ⟨b4, a4⟩ := fld_bool (o := 4) Tryd.underlying4 q4
  obtain ⟨b5, a5⟩ := fld_bool (o := 5) Tryd.underlying4 q5
  obtain ⟨s6, a6, hs6⟩ := fld_str (o := 6) Tryd.underlying9 q6
  refine ⟨⟨n0, n1, n2, b3, b4, b5, s6.data.toList⟩, str_len s6 hs6, reads_of (by simp [Part.cells, hl]) fun k x hk => ?_⟩
  match k with
  | 0 => obtain rfl := Option.some.inj hk; exact ⟨_, a0, rfl, .int _ _⟩
  | 1 => obtain rfl := Option.some.inj hk; exact ⟨_, a1, rfl, .int _ _⟩
  | 2 => obtain rfl := Option.some.inj hk; exact ⟨_, a2, rfl, .int _ _⟩
  | 3 => obtain rfl := Option.some.inj hk; exact ⟨_, a3, rfl, .bool _⟩
  | 4 => obtain rfl := Option.some.inj hk; exact ⟨_, a4, rfl, .bool _⟩
  | 5 => obtain rfl := Option.some.inj hk; exact ⟨_, a5, rfl, .bool _⟩
  | 6 => obtain rfl := Option.some.inj hk; exact ⟨_, a6, rfl, .str _ _ rfl⟩

theorem read_parts {fuel : Nat} {v : Value} {y : DataW H × List MemPlace} (h : TrodP enc W fuel 63 [v] y) :
    ∃ l : List Part, (l.length : Int) ≤ 9223372036854775807 ∧ (∀ d ∈ l, (d.text.length : Int) ≤ 9223372036854775807) ∧ PRel γ0.O W (psl l) v ∧ v.oneCell' = true :=
  read_slice (cl := Part.cells) (sz := 7) Tryd.underlying63 (by kernel_rfl) (by omega) (fun _ => rfl) (fun fuel cs y h hl => read_part fuel cs y h hl) h

theorem one_of {l : List Value} (h : l.length = 1) : ∃ v, l = [v] := by
  match l, h with
  | [v], _ => exact ⟨v, rfl⟩

theorem fld_parts {fuel o : Nat} {cs : List Value} {y : DataW H × List MemPlace} (ho : o < cs.length) (h : TrodP enc W fuel 63 ((cs.drop o).take 1) y) :
    ∃ l : List Part, ((l.length : Int) ≤ 9223372036854775807 ∧ ∀ d ∈ l, (d.text.length : Int) ≤ 9223372036854775807) ∧ ∃ v, cs[o]? = some v ∧ PRel γ0.O W (psl l) v ∧ v.oneCell' = true := by
  obtain ⟨v, hv⟩ := one_of (l := (cs.drop o).take 1) (by simp; omega)
  rw [hv] at h
  obtain ⟨l, q1, q2, q3, q4⟩ := read_parts h
  exact ⟨l, ⟨q1, q2⟩, v, take1 hv, q3, q4⟩

theorem read_side (fuel : Nat) (cs : List Value) (y : DataW H × List MemPlace) (h : TrodP enc W fuel 65 cs y) (hl : cs.length = 5) : ∃ s : Side, s.raw ∧ Reads W s.cells cs := by
  obtain ⟨xs, n, _, _, _, hx, hs⟩ := DataW.trod_struct Tryd.underlying65 h
  obtain ⟨_, q0⟩ := fld hs hx (i := 0) rfl
  obtain ⟨_, q1⟩ := fld hs hx (i := 1) rfl
  obtain ⟨_, q2⟩ := fld hs hx (i := 2) rfl
  obtain ⟨_, q3⟩ := fld hs hx (i := 3) rfl
  obtain ⟨_, q4⟩ := fld hs hx (i := 4) rfl
  obtain ⟨n0, a0⟩ := fld_int (o := 0) Tryd.underlying3 q0
  obtain ⟨n1, a1⟩ := fld_int (o := 1) Tryd.underlying3 q1
  obtain ⟨n2, a2⟩ := fld_int (o := 2) Tryd.underlying3 q2
  obtain ⟨l3, hr3, v3, a3, r3, o3⟩ := fld_parts (o := 3) (by omega) q3
  obtain ⟨n4, a4⟩ := fld_int (o := 4) Tryd.underlying3 q4
  refine ⟨⟨n0, n1, n2, l3, n4⟩, hr3, reads_of (by simp [Side.cells, hl]) fun k x hk => ?_⟩
  match k with
  | 0 => obtain rfl := Option.some.inj hk; exact ⟨_, a0, rfl, .int _ _⟩
  | 1 => obtain rfl := Option.some.inj hk; exact ⟨_, a1, rfl, .int _ _⟩
  | 2 => obtain rfl := Option.some.inj hk; exact ⟨_, a2, rfl, .int _ _⟩
  | 3 => obtain rfl := Option.some.inj hk; exact ⟨_, a3, o3, r3⟩
  | 4 => obtain rfl := Option.some.inj hk; exact ⟨_, a4, rfl, .int _ _⟩

theorem sub_get {cs : List Value} {o m k : Nat} (hk : k < m) : ((cs.drop o).take m)[k]? = cs[o + k]? := by
  rw [List.getElem?_take, if_pos hk, List.getElem?_drop]

theorem reads_get {xs : List V} {us : List Value} (h : Reads W xs us) {k : Nat} {x : V} (hk : xs[k]? = some x) : ∃ u, us[k]? = some u ∧ u.oneCell' = true ∧ PRel γ0.O W x u := by
  obtain ⟨h1, rfl⟩ := List.getElem?_eq_some_iff.1 hk
  have h2 : k < us.length := by rw [h.len]; exact h1
  exact ⟨_, List.getElem?_eq_getElem h2, h.one _ (List.getElem_mem _), h.rel k h1 h2⟩

theorem read_assoc (fuel : Nat) (cs : List Value) (y : DataW H × List MemPlace) (h : TrodP enc W fuel 67 cs y) (hl : cs.length = 14) : ∃ x : Assoc, (x.a.raw ∧ x.b.raw) ∧ Reads W x.cells cs := by
  obtain ⟨xs, n, _, _, _, hx, hs⟩ := DataW.trod_struct Tryd.underlying67 h
  obtain ⟨_, q0⟩ := fld hs hx (i := 0) rfl
  obtain ⟨_, q1⟩ := fld hs hx (i := 1) rfl
  obtain ⟨_, q2⟩ := fld hs hx (i := 2) rfl
  obtain ⟨_, q3⟩ := fld hs hx (i := 3) rfl
  obtain ⟨_, q4⟩ := fld hs hx (i := 4) rfl
  obtain ⟨_, q5⟩ := fld hs hx (i := 5) rfl
  obtain ⟨n0, a0⟩ := fld_int (o := 0) Tryd.underlying3 q0
  obtain ⟨n1, a1⟩ := fld_int (o := 1) Tryd.underlying3 q1
  obtain ⟨n2, a2⟩ := fld_int (o := 2) Tryd.underlying3 q2
  obtain ⟨b3, a3⟩ := fld_bool (o := 3) Tryd.underlying4 q3
  obtain ⟨s4, hr4, r4⟩ := read_side n ((cs.drop 4).take 5) _ q4 (by simp; omega)
  obtain ⟨s5, hr5, r5⟩ := read_side n ((cs.drop 9).take 5) _ q5 (by simp; omega)
  refine ⟨⟨n0, n1, n2, b3, s4, s5⟩, ⟨hr4, hr5⟩, reads_of (by simp [Assoc.cells, Side.cells, hl]) fun k x hk => ?_⟩
  match k with
  | 0 => obtain rfl := Option.some.inj hk; exact ⟨_, a0, rfl, .int _ _⟩
  | 1 => obtain rfl := Option.some.inj hk; exact ⟨_, a1, rfl, .int _ _⟩
  | 2 => obtain rfl := Option.some.inj hk; exact ⟨_, a2, rfl, .int _ _⟩
  | 3 => obtain rfl := Option.some.inj hk; exact ⟨_, a3, rfl, .bool _⟩
  | 4 => have := reads_get r4 (k := 0) hk; rwa [sub_get (by omega)] at this
  | 5 => have := reads_get r4 (k := 1) hk; rwa [sub_get (by omega)] at this
  | 6 => have := reads_get r4 (k := 2) hk; rwa [sub_get (by omega)] at this
  | 7 => have := reads_get r4 (k := 3) hk; rwa [sub_get (by omega)] at this
  | 8 => have := reads_get r4 (k := 4) hk; rwa [sub_get (by omega)] at this
  | 9 => have := reads_get r5 (k := 0) hk; rwa [sub_get (by omega)] at this
  | 10 => have := reads_get r5 (k := 1) hk; rwa [sub_get (by omega)] at this
  | 11 => have := reads_get r5 (k := 2) hk; rwa [sub_get (by omega)] at this
  | 12 => have := reads_get r5 (k := 3) hk; rwa [sub_get (by omega)] at this
  | 13 => have := reads_get r5 (k := 4) hk; rwa [sub_get (by omega)] at this

theorem read_find (fuel : Nat) (cs : List Value) (y : DataW H × List MemPlace) (h : TrodP enc W fuel 82 cs y) (hl : cs.length = 2) : ∃ f : Int × Int, True ∧ Reads W [.int .i64 f.1, .int .i64 f.2] cs := by
  obtain ⟨xs, n, _, _, _, hx, hs⟩ := DataW.trod_struct Tryd.underlying82 h
  obtain ⟨_, q0⟩ := fld hs hx (i := 0) rfl
  obtain ⟨_, q1⟩ := fld hs hx (i := 1) rfl
  obtain ⟨n0, a0⟩ := fld_int (o := 0) Tryd.underlying3 q0
  obtain ⟨n1, a1⟩ := fld_int (o := 1) Tryd.underlying3 q1
  refine ⟨(n0, n1), trivial, reads_of (by simp [hl]) fun k x hk => ?_⟩
  match k with
  | 0 => obtain rfl := Option.some.inj hk; exact ⟨_, a0, rfl, .int _ _⟩
  | 1 => obtain rfl := Option.some.inj hk; exact ⟨_, a1, rfl, .int _ _⟩

/-- An argument that is a monitor. -/
theorem open_monitor {v : Value} {d : DataW H} {ps : List MemPlace} {base : Nat} (hval : Value.okWide Tryd.prog W .any base 25 v) (h0 : DataW.Trod enc Tryd.prog W 0 (fun _ => true) true 25 v d ps) :
    ∃ m : Monitor, m.raw ∧ VRel [] γ0 W m.v v := by
  obtain ⟨fuel, h⟩ := h0
  simp only [Value.okWide, Tryd.underlying25] at hval
  obtain ⟨ca, rfl, hz, _⟩ := hval
  have hz : ca.size = 3 := hz
  have hl : (Value.agg ca).cells.toList.length = 3 := by simpa [Value.cells] using hz
  obtain ⟨xs, n, _, _, _, hx, hs⟩ := DataW.trod_struct Tryd.underlying25 h
  obtain ⟨_, q0⟩ := fld hs hx (i := 0) rfl
  obtain ⟨_, q1⟩ := fld hs hx (i := 1) rfl
  obtain ⟨_, q2⟩ := fld hs hx (i := 2) rfl
  generalize hcs : (Value.agg ca).cells.toList = cs at *
  obtain ⟨n0, a0⟩ := fld_int (o := 0) Tryd.underlying3 q0
  obtain ⟨v1, hv1⟩ := one_of (l := (cs.drop 1).take 1) (by simp; omega)
  obtain ⟨v2, hv2⟩ := one_of (l := (cs.drop 2).take 1) (by simp; omega)
  have q1' : TrodP enc W n 22 ((cs.drop 1).take 1) _ := q1
  have q2' : TrodP enc W n 23 ((cs.drop 2).take 1) _ := q2
  rw [hv1] at q1'
  rw [hv2] at q2'
  obtain ⟨l1, b1, e1, r1, o1⟩ := read_slice (cl := Assoc.cells) (p := fun x => x.a.raw ∧ x.b.raw) (sz := 14) Tryd.underlying22 (by kernel_rfl) (by omega) (fun x => by simp [Assoc.cells, Side.cells]) (fun fuel cs y h hl => read_assoc fuel cs y h hl) q1'
  obtain ⟨l2, b2, e2, r2, o2⟩ := read_slice (cl := fun f : Int × Int => [V.int .i64 f.1, V.int .i64 f.2]) (p := fun _ => True) (sz := 2) Tryd.underlying23 (by kernel_rfl) (by omega) (fun x => rfl) (fun fuel cs y h hl => read_find fuel cs y h hl) q2'
  have ev : Value.agg ca = .agg (cs.toArray) := by
    rw [← hcs]; simp [Value.cells]
  rw [ev]
  refine ⟨⟨n0, l1, l2⟩, ⟨b1, e1, b2⟩, .base (.agg _ cs (by simp [Monitor.cells, hl]) fun k h1 h2 => ?_)⟩
  have a1 := take1 hv1
  have a2 := take1 hv2
  match k with
  | 0 =>
    rw [List.getElem?_eq_getElem h2] at a0
    rw [Option.some.inj a0]
    exact .int _ _
  | 1 =>
    rw [List.getElem?_eq_getElem h2] at a1
    rw [Option.some.inj a1]
    exact r1
  | 2 =>
    rw [List.getElem?_eq_getElem h2] at a2
    rw [Option.some.inj a2]
    exact r2
end
end
end Go.Proofs.YtnhhcfbigjpfeaaDoor

namespace Go.Proofs.YtnhhcfbigjpfeaaDoor.fnExactReportText
open Go.ChangeShapes Go.WideShapes Go.ChangeAt Go.RowKit
set_option linter.all false

theorem table {W : World} (h : laidMetH Tryd.prog Rows.fnExactReportTextRow.laid W) : Lib.TabIs Tryd.prog W "internal/strconv.uint64pow10" .u64 Lib.pow10Tab := pow10_of h

set_option maxRecDepth 100000 in
theorem contract (H : Type) (enc : TypeId × Value → H) (W : World) (base : Nat) (args : Array Value) (ds gs : List (DataW H)) (before : List MemPlace)
    (hval : ∀ (j : Nat) t v, Tryd.f3.params[j]? = some t → args[j]? = some v → Value.okWide Tryd.prog W .any base t v)
    (hW : DataW.Whole enc Tryd.prog Tryd.f3.params.toList Rows.fnExactReportTextSpec.vars false W args.toList ds gs before) (hL : laidMetH Tryd.prog Rows.fnExactReportTextRow.laid W) (hsh : W.ShapedOpen Tryd.prog) :
    Calls Tryd.prog 3 args W fun e W' => ∃ v, e = .returned v ∧ Rows.fnExactReportTextSpec.post enc Tryd.prog Tryd.f3 false true false false W args v W' := by
  have hW' := hW
  obtain ⟨p, q, hA0, hV, rfl, hfz, hnd⟩ := hW
  have hA : DataW.TrodAll enc Tryd.prog W 0 (fun _ => true) true Tryd.f3.params.toList args.toList ds p := hA0
  rw [Tryd.params3] at hA hval
  obtain ⟨v0, d0, rfl, rfl, h0⟩ := trodAll_one hA
  obtain ⟨rfl, rfl⟩ := trodVars_none hV
  clear hA0
  simp only [List.append_nil] at hW'
  obtain ⟨l0, hs0, hl0⟩ := open_monitor (hval 0 25 v0 rfl rfl) h0
  refine ((FnExactReportText_ok l0 hs0).calls_true rfl W [v0] (tabsD (table hL) hsh) (rel_one hl0)).mono fun e W' ⟨he, hb⟩ => ?_
  subst he
  have hlt : ∀ x ∈ p, x.block < W.heap.size := fun x hx => by simpa using hW'.lt x hx
  have hargs := Below.trod laidOut (by kernel_rfl) (of_decide_eq_true (by kernel_rfl)) h0 hb hlt
  exact ⟨_, rfl, ⟨_, _, _, [], _, [], hW', trodAll_mk1 (shut_bool Tryd.underlying4 _), trodAll_mk1 hargs, rfl, hb.frame _, fun h => by cases h⟩⟩

set_option maxRecDepth 100000 in
theorem laid_met (os : Os) : laidMet Tryd.prog Rows.fnExactReportTextRow.laid ((laidWorld os).forCall (fun _ _ => 0) ⟨#[], #[.agg #[.int .i64 0, .slice none 0 0, .slice none 0 0]], []⟩).memory :=
  laidMet_of_run' 8 (by kernel_rfl) (by kernel_rfl)
set_option maxRecDepth 100000 in
theorem reads (os : Os) {H : Type} (enc : TypeId × Value → H) : ∃ places, DataW.whole enc Tryd.prog ((laidWorld os).forCall (fun _ _ => 0) ⟨#[], #[.agg #[.int .i64 0, .slice none 0 0, .slice none 0 0]], []⟩).memory Tryd.f3.params.toList Rows.fnExactReportTextSpec.vars false #[Value.agg #[.int .i64 0, Value.slice none 0 0, .slice none 0 0]].toList 8 = some ([.agg [.lit (.int .i64 0), .nil, .nil]], [], places) :=
  ⟨[], by kernel_rfl⟩

set_option maxRecDepth 100000 in
theorem lifted (os : Os) (started : os.Started) (H : Type) (enc : TypeId × Value → H) (F : Stop.Interp) :
    ReturnsInHanded {} Tryd.checked os 3 .any ((OpenSpec.ofChange Rows.fnExactReportTextSpec).preRow enc Tryd.prog Tryd.f3 Rows.fnExactReportTextRow.domain false Rows.fnExactReportTextRow.laid) (((OpenSpec.ofChange Rows.fnExactReportTextSpec).at F).post enc Tryd.prog Tryd.f3 false true false false) := by
  obtain ⟨places, hx⟩ := reads os enc
  refine returnsInHanded_of_row (C := Tryd.checked) (s := OpenSpec.ofChange Rows.fnExactReportTextSpec) own started (by kernel_rfl) Tryd.func3
    (witness_row_at (enc := enc) (C := Tryd.checked) false (laidWorld os) #[.agg #[.int .i64 0, .slice none 0 0, .slice none 0 0]] rfl (by kernel_rfl) (by kernel_rfl) (by kernel_rfl)
      (OpenSpec.preRow_of_cond 8 hx (by kernel_rfl) (fun k hk => by cases hk) (by kernel_rfl) (laid_met os))) ?_
  intro W base args ds gs before hval hW _ _ _ hL hsh _
  exact contract H enc W base args ds gs before hval hW hL hsh

set_option maxRecDepth 100000 in
theorem said : Rows.FnExactReportTextSaid :=
  OpenClaim.holds_of_cond 3 Tryd.f3 rfl rfl rfl rfl rfl rfl rfl ⟨rfl, rfl, rfl, rfl, rfl⟩ rfl rfl rfl rfl rfl (by kernel_rfl) Tryd.func3 (by kernel_rfl)
    (of_decide_eq_true (by kernel_rfl)) (by unfold Func.isWrapper; first | (rw [if_pos (by decide +kernel)]; kernel_rfl) | (rw [if_neg (by decide +kernel)]; exact ⟨rfl, rfl⟩))
    (fun os started H enc _ F => by rw [OpenClaim.pre_eq_preRow]; exact lifted os started H enc F)

set_option maxRecDepth 100000 in
theorem plain (f : FuncId) (fn : Func) (hf : Tryd.pinned.checked.prog.funcNamed "loop.example/capturemonitor/laws.FnExactReportText" = some f) (hfn : Tryd.pinned.checked.prog.funcs[f]? = some fn) :
    false = Tryd.pinned.checked.prog.looks [] ∧ ∀ (j : Nat) t, fn.params[j]? = some t → Tryd.pinned.checked.prog.wantsStandIn t = false := by
  obtain rfl : f = 3 := Option.some.inj ((show Tryd.prog.funcNamed "loop.example/capturemonitor/laws.FnExactReportText" = some 3 by kernel_rfl).symm.trans hf) |>.symm
  obtain rfl : fn = Tryd.f3 := (Option.some.inj (Tryd.func3.symm.trans hfn)).symm
  refine ⟨by kernel_rfl, fun j t ht => ?_⟩
  rw [Tryd.params3] at ht
  obtain rfl : t = 25 := by simpa using Array.mem_of_getElem? ht
  exact (show Tryd.prog.wantsStandIn 25 = false by kernel_rfl)

set_option maxRecDepth 100000 in
theorem card : Rows.FnExactReportTextCardSaid :=
  Claim7.holds_tied_plain_at .later [] _ _ _ _ said (fun _ h => by cases h) (by kernel_rfl) (fun _ h => by cases h) fnExactReportText_row_tie rfl ⟨rfl, rfl⟩ (by kernel_rfl) rfl plain (by kernel_rfl)
end Go.Proofs.YtnhhcfbigjpfeaaDoor.fnExactReportText
