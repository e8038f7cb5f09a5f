/-
  The library's builder of strings: its look at itself, and its text, by walks of their own; its writing by the abstract machine.
  The messages of a side in a report: contracts.
  The laws of messages hold.
  Findings as texts by the program; and the laws of findings that speak of their texts.
  The report of a monitor, by the reference and by the program: contracts.
-/
import Derived.Test.YtnhhcfbigjpfeaaDoorQ18
import Derived.Tactics
import Derived.Tactics2
import Derived.LoopTactic
import Derived.RegionTactic
import Derived.Lib.Builder
import Derived.Lib.UnsafeStr
import Derived.Laws.Externs
import Derived.Test.YtnhhcfbigjpfeaaDoorQ24
namespace Go.Proofs.YtnhhcfbigjpfeaaDoor
set_option linter.all false

section
open Go.RowKit Go.Lib

theorem sizeBuilder : (Tryd.prog.info? 53).map (·.size) = some 2 := by kernel_rfl
theorem liesBuilder : liesAt Tryd.prog Tryd.prog.depth 53 (2 / Tryd.prog.cellsOf 53) 0 53 1 = true := by kernel_rfl

set_option maxHeartbeats 1000000 in
set_option maxRecDepth 100000 in
theorem cc_used (b : Nat) (w : World) (h0 : w.cell? ⟨b, 0, none⟩ = some (.pointer (some ⟨b, 0, none⟩))) :
    Calls Tryd.prog 38 #[.pointer (some ⟨b, 0, none⟩)] w fun e w' => e = .returned (.tuple #[]) ∧ w' = w := by
  obtain ⟨j, hj, hjs⟩ := Option.map_eq_some_iff.1 sizeBuilder
  go_enter Tryd.func38, Tryd.ntmps38
  go_wp2
  rw [Lib.run_neq_ptr_same w _ Tryd.underlying50 hj]
  go_wp2
  go_end0
  exact ⟨rfl, rfl⟩

set_option maxHeartbeats 1000000 in
set_option maxRecDepth 100000 in
theorem cc_fresh (b : Nat) (w : World) (h0 : w.cell? ⟨b, 0, none⟩ = some (.pointer none)) (hsh : w.shape? b = some (53, 2)) (hfz : w.frozen? ⟨b, 0, none⟩ = false) :
    Calls Tryd.prog 38 #[.pointer (some ⟨b, 0, none⟩)] w fun e w' => e = .returned (.tuple #[]) ∧ w' = w.setCell ⟨b, 0, none⟩ (.pointer (some ⟨b, 0, none⟩)) := by
  obtain ⟨j, hj, hjs⟩ := Option.map_eq_some_iff.1 sizeBuilder
  go_enter Tryd.func38, Tryd.ntmps38
  go_wp2
  rw [Lib.run_to_unsafe w ⟨b, 0, none⟩ Tryd.underlying50 Tryd.underlying94 hj (by rw [hjs]; decide) hsh (Nat.zero_lt_succ 1)]
  simp only [Result.andThen]
  rw [Oper.upon_value]
  go_wp2
  rw [run_callFunc_extern Tryd.func51 (by kernel_rfl) (by kernel_rfl) (by kernel_rfl) (e := Extern.AbiNoEscape.same) (by kernel_rfl)]
  rw [Lib.run_noEscape]
  simp only [Result.andThen]
  rw [Oper.upon_value]
  go_wp2
  rw [Lib.run_from_unsafe w ⟨b, 0, none⟩ Tryd.underlying94 Tryd.underlying50 hj hsh liesBuilder]
  simp only [Result.andThen]
  rw [Oper.upon_value]
  go_wp2
  go_end0
  exact ⟨rfl, rfl⟩

theorem freeze_other {w : World} {g n : Nat} {k : Nat} (h : k ≠ g) : (w.freeze ⟨g, 0, none⟩ n).heap[k]? = w.heap[k]? := by
  unfold World.freeze
  split
  · rfl
  · simp only [Array.getElem?_modify]
    rw [if_neg (fun e => h e.symm)]

theorem freeze_size {w : World} {g n : Nat} : (w.freeze ⟨g, 0, none⟩ n).heap.size = w.heap.size := by
  unfold World.freeze
  split
  · rfl
  · simp

theorem freeze_typ {w : World} {g n k t : Nat} (h : OfType w k t) : OfType (w.freeze ⟨g, 0, none⟩ n) k t := by
  obtain ⟨c, fr, h⟩ := h
  by_cases e : k = g
  · subst e
    unfold World.freeze
    split
    · exact ⟨c, fr, h⟩
    · refine ⟨c, ?_⟩
      simp only [Array.getElem?_modify, if_pos trivial, h]
      exact ⟨_, rfl⟩
  · exact ⟨c, fr, by rw [freeze_other e]; exact h⟩

theorem freeze_rest (w : World) (g n : Nat) : (w.freeze ⟨g, 0, none⟩ n).os = w.os ∧ (w.freeze ⟨g, 0, none⟩ n).tape = w.tape ∧ (w.freeze ⟨g, 0, none⟩ n).output = w.output := by
  unfold World.freeze
  split <;> exact ⟨rfl, rfl, rfl⟩

theorem cellsByte : Tryd.prog.cellsOf 5 = 1 := by kernel_rfl

set_option maxHeartbeats 1000000 in
set_option maxRecDepth 100000 in
theorem string_walk (b g n cap : Nat) (cur : Array Value) (l : List UInt8) (w : World) (h1 : w.cell? ⟨b, 1, none⟩ = some (.slice (some ⟨g, 0, none⟩) l.length cap)) (hg : w.heap[g]? = some (.cells cur 5 (0, 0))) (h0 : l ≠ []) (hn : l.length ≤ cap) (hm : cap ≤ maxLen)
    (hc : l.length ≤ cur.size) (hget : ∀ k (h : k < l.length), cur[k]? = some (.int .u8 l[k].toNat)) :
    Calls Tryd.prog 22 #[.pointer (some ⟨b, 0, none⟩)] w fun e w' => e = .returned (.string ⟨l.toArray⟩) ∧ w' = w.drew.freeze ⟨g, 0, none⟩ l.length := by
  have hl0 : l.length ≠ 0 := by simpa using h0
  have c1 : w.drew.cell? ⟨b, 1, none⟩ = some (.slice (some ⟨g, 0, none⟩) l.length cap) := h1
  have hSD : (Builtin.unsafeSliceData_ #[51] 86 #[.slice (some ⟨g, 0, none⟩) l.length cap]).run Tryd.prog w.drew = .ok (.pointer (some ⟨g, 0, none⟩)) w.drew :=
    Lib.run_unsafeSliceData_row _ _ _ _ _ _ (by omega)
  have hUS : (Builtin.unsafeString_ #[86, 3] 9 #[.pointer (some ⟨g, 0, none⟩), .int .i64 l.length]).run Tryd.prog w.drew = .ok (.string ⟨l.toArray⟩) (w.drew.freeze ⟨g, 0, none⟩ l.length) := by
    refine Lib.run_unsafeString_row w.drew 86 3 9 5 Tryd.underlying86 cellsByte g cur.size (by have hg' : w.drew.heap[g]? = some (.cells cur 5 (0, 0)) := hg; simp [World.shape?, hg']) l h0 (by omega) (by unfold maxLen at hm; omega) ?_
    intro j x hx
    have hj := (List.getElem?_eq_some_iff.1 hx).1
    have hx2 := (List.getElem?_eq_some_iff.1 hx).2
    have hg' : w.drew.heap[g]? = some (.cells cur 5 (0, 0)) := hg
    have e3 : Addr.add ⟨g, 0, none⟩ j = ⟨g, j, none⟩ := by unfold Addr.add; split <;> simp_all
    rw [e3]
    simp only [World.cell?, hg']
    have := hget j hj
    rw [hx2] at this
    simpa using this
  clear hget hc hn
  go_enter Tryd.func22, Tryd.ntmps22
  go_wp2
  go_region
  all_goals (go_wp2; go_ret; exact ⟨rfl, rfl⟩)

section
variable {γ : Ghost} {w : World}

/-- The variable of a builder, as it lies in memory. -/
theorem bld_box {K : Ctx} {S : Stats} {x y : V} {γ : Ghost} {w : World} (h : HInv K (boxesOf [[x, y]]) S γ w) : ∃ g c e, γ.bx 1000 = some g ∧ γ.ow g = some (true, 1000) ∧ w.heap[g]? = some (.cells c e (0, 0)) ∧ c.size = 2 ∧
    ∃ u v, c[0]? = some u ∧ c[1]? = some v ∧ VRel S γ w x u ∧ VRel S γ w y v := by
  obtain ⟨g, c, e, q1, q2, q3, q4, q5⟩ := h.box 1000 [x, y] (by simp [boxesOf, boxesFrom, lookB])
  have h0 : 0 < c.size := by rw [q4]; simp
  have h1 : 1 < c.size := by rw [q4]; simp
  exact ⟨g, c, e, q1, q2, q3, q4, c[0], c[1], Array.getElem?_eq_getElem h0, Array.getElem?_eq_getElem h1, q5 0 (by simp) h0, q5 1 (by simp) h1⟩

theorem copyCheck_used_ok (e : Nat) (l : List UInt8) : Fn Tryd.prog 38 [.ptr 1000 0] [[.ptr 1000 0, .bb e 0 l]] (.tup []) [[.ptr 1000 0, .bb e 0 l]] := by
  intro w γ vs hT hH hc
  obtain ⟨v, rfl, hv⟩ := arg1 hc
  obtain ⟨g, rfl, hg⟩ := hv.ptr_inv
  obtain ⟨g2, c, e2, q1, q2, q3, q4, u, v, r1, r2, r3, r4⟩ := bld_box hH
  rw [hg] at q1
  obtain rfl := Option.some.inj q1
  obtain ⟨g3, rfl, hg3⟩ := r3.ptr_inv
  rw [hg] at hg3
  obtain rfl := Option.some.inj hg3
  refine (cc_used g w (by simp only [World.cell?, q3]; simpa using r1)).mono fun e w' ⟨h1, h2⟩ => ?_
  subst h1
  subst h2
  exact ⟨_, γ, rfl, hH, .tup [] [] rfl (fun k h => by simp at h)⟩

theorem copyCheck_fresh_ok : Fn Tryd.prog 38 [.ptr 1000 0] [[.nilb 1000 53, .nils]] (.tup []) [[.ptr 1000 0, .nils]] := by
  intro w γ vs hT hH hc
  obtain ⟨v, rfl, hv⟩ := arg1 hc
  obtain ⟨g, rfl, hg⟩ := hv.ptr_inv
  obtain ⟨g2, c, e2, q1, q2, q3, q4, u, v, r1, r2, r3, r4⟩ := bld_box hH
  rw [hg] at q1
  obtain rfl := Option.some.inj q1
  have ht : OfType w g 53 := by
    cases r3 with
    | base h => cases h
    | nilb h ht =>
      rw [hg] at h
      obtain rfl := Option.some.inj h
      exact ht
  obtain rfl := r3.nilb_inv
  obtain rfl := r4.nils_inv
  obtain ⟨c2, fr, ht⟩ := ht
  rw [q3] at ht
  cases ht
  refine (cc_fresh g w (by simp only [World.cell?, q3]; simpa using r1) (by simp [World.shape?, q3, q4]) (by simp [World.frozen?, q3])).mono fun e w' ⟨h1, h2⟩ => ?_
  subst h1
  rw [setCell_eq_setRow w g 0 c 53 (0, 0) _ q3] at h2
  subst h2
  generalize hcc : c.setIfInBounds 0 (Value.pointer (some ⟨g, 0, none⟩)) = c'
  have hcs : c'.size = 2 := by rw [← hcc]; simpa using q4
  have hc0 : c'[0]? = some (.pointer (some ⟨g, 0, none⟩)) := by rw [← hcc]; simp [q4]
  have hc1 : c'[1]? = some (.slice none 0 0) := by rw [← hcc]; simp [q4] at r2 ⊢; exact r2
  refine ⟨_, γ, rfl, ⟨fun d cs hl => ?_, ⟨fun d k hk => ?_, hH.bxd.2⟩, fun σ top sz q => ?_, fun k x hk => ?_, ⟨hH.av.1, fun k hk => by rw [setRow_size]; exact hH.av.2 k hk⟩, setRow_frame hH.frame (hH.ow g _ q2).2 c'⟩, .tup [] [] rfl (fun k h => by simp at h)⟩
  · simp only [boxesOf, boxesFrom, lookB] at hl
    split at hl
    · rename_i e
      subst e
      obtain rfl := Option.some.inj hl
      refine ⟨g, c', _, hg, q2, setRow_heap w g c c' _ (0, 0) q3, by simpa using hcs, fun k h1 h2 => ?_⟩
      match k, h1 with
      | 0, _ =>
        rw [Array.getElem?_eq_getElem h2] at hc0
        have e := Option.some.inj hc0
        simp only [List.getElem_cons_zero]
        rw [e]
        exact .ptr hg
      | 1, _ =>
        rw [Array.getElem?_eq_getElem h2] at hc1
        have e := Option.some.inj hc1
        simp only [List.getElem_cons_succ, List.getElem_cons_zero]
        rw [e]
        exact .base .nils
    · cases hl
  · have := hH.bxd.1 d k hk
    simp only [boxesOf, boxesFrom, lookB] at this ⊢
    split <;> simp_all
  · simp [resStat, V.stat, V.comps, compsStat, boxesStat, cellsStat, cellStat, lookS] at q
  · have := hH.ow k x hk
    exact ⟨by rw [setRow_size]; exact this.1, this.2⟩

theorem string_ok (l : List UInt8) (h0 : l ≠ []) : Fn Tryd.prog 22 [.ptr 1000 0] [[.ptr 1000 0, .bb 5 0 l]] (.str l) [[.undef, .undef]] := by
  intro w γ vs hT hH hc
  obtain ⟨v, rfl, hv⟩ := arg1 hc
  obtain ⟨g, rfl, hg⟩ := hv.ptr_inv
  obtain ⟨g2, c, e2, q1, q2, q3, q4, u, v, r1, r2, r3, r4⟩ := bld_box hH
  rw [hg] at q1
  obtain rfl := Option.some.inj q1
  have hs : lookS (argStat [V.ptr 1000 0] [[V.ptr 1000 0, V.bb 5 0 l]]) 0 = some (.own l.length 1) := by simp [argStat, compsStat, boxesStat, cellsStat, cellStat, lookS, V.cells]
  rcases of_bb hs r4 with ⟨_, h⟩ | ⟨gb, cap, cur, rfl, s1, s2, s3, s4, s5, s6⟩
  · exact absurd h h0
  have hgw : γ.ow gb = some (false, 0) := by
    rcases hH.sp 0 _ _ hs with ⟨p1, _⟩ | ⟨g3, _, _, p1, p2, _⟩
    · rw [s1] at p1; cases p1
    · rw [s1] at p1
      obtain rfl := Option.some.inj p1
      exact p2
  have hne : gb ≠ g := by rintro rfl; rw [q2] at hgw; simp at hgw
  refine (string_walk g gb 0 cap cur l w (by simp only [World.cell?, q3]; simpa using r2) s2 h0 s4 s5 (by omega) s6).mono fun e w' ⟨h1, h2⟩ => ?_
  subst h1
  subst h2
  have hoth : ∀ k, k ≠ gb → (w.drew.freeze ⟨gb, 0, none⟩ l.length).heap[k]? = w.heap[k]? := fun k hk => freeze_other hk
  have hsz : (w.drew.freeze ⟨gb, 0, none⟩ l.length).heap.size = w.heap.size := freeze_size
  obtain ⟨f1, f2, f3⟩ := freeze_rest w.drew gb l.length
  refine ⟨_, γ, rfl, ⟨fun d cs hl => ?_, ⟨fun d k hk => ?_, hH.bxd.2⟩, fun σ top sz q => ?_, fun k x hk => by rw [hsz]; exact hH.ow k x hk, ⟨hH.av.1, fun k hk => by rw [hsz]; exact hH.av.2 k hk⟩, ?_⟩, .base (.str _ _ rfl)⟩
  · simp only [boxesOf, boxesFrom, lookB] at hl
    split at hl
    · rename_i e
      subst e
      obtain rfl := Option.some.inj hl
      refine ⟨g, c, _, hg, q2, by rw [hoth g hne.symm]; exact q3, by simpa using q4, fun k h1 h2 => ?_⟩
      match k, h1 with
      | 0, _ => exact .base (.undef _)
      | 1, _ => exact .base (.undef _)
    · cases hl
  · have := hH.bxd.1 d k hk
    simp only [boxesOf, boxesFrom, lookB] at this ⊢
    split <;> simp_all
  · simp [resStat, V.stat, V.comps, compsStat, boxesStat, cellsStat, cellStat, lookS, V.cells] at q
  · have hk := hH.frame
    refine ⟨f1.trans hk.os, f2.trans hk.tape, f3.trans hk.output, by rw [hsz]; exact hk.size, fun k hk1 hk2 => ?_, fun k t q => freeze_typ (hk.typ k t q)⟩
    rw [hoth k ?_]
    · exact hk.same k hk1 hk2
    · rintro rfl
      exact hk2 (by simp [Ctx.ofGhost, hgw])

/-! ## Writing -/

theorem write_used_ok (l s : List UInt8) (h : l.length + s.length ≤ 1000000000) : Fn Tryd.prog fn_strings_Builder_WriteString [.ptr 1000 0, .str s] [[.ptr 1000 0, .bb 5 0 l]] (.tup [.int .i64 s.length, .undef]) [[.ptr 1000 0, .bb 5 0 (l ++ s)]] := by
  refine Fn.of_go ln_strings_Builder_WriteString rfl ?_
  simp [ac_strings_Builder_WriteString]
  refine goCall_gen [(0, some 0, l.length, 1)] [(1000, 1000)] [] [] none (copyCheck_used_ok 5 l) (by simp) ?_
  simp
  refine ⟨by unfold roomOk; omega, ?_⟩
  exact Ends.mk [(0, some 112, l.length + s.length, 1)] [(1000, 1000)] (by simp)

theorem write_fresh_ok (s : List UInt8) (h : s.length ≤ 1000000000) : Fn Tryd.prog fn_strings_Builder_WriteString [.ptr 1000 0, .str s] [[.nilb 1000 53, .nils]] (.tup [.int .i64 s.length, .undef]) [[.ptr 1000 0, .bb 5 0 s]] := by
  refine Fn.of_go ln_strings_Builder_WriteString rfl ?_
  simp [ac_strings_Builder_WriteString]
  refine goCall_gen [] [(1000, 1000)] [] [] none copyCheck_fresh_ok (by simp) ?_
  simp
  refine ⟨by unfold roomOk; omega, ?_⟩
  exact Ends.mk [(0, some 224, s.length, 1)] [(1000, 1000)] (by simp)

end
end

section
set_option maxRecDepth 200000
set_option maxHeartbeats 8000000
attribute [-simp] List.getD_eq_getElem?_getD

/-- The text that is open after some parts. -/
def openG : List Part → List UInt8 → List UInt8
  | [], t => t
  | d :: r, t => openG r (if d.last then [] else t ++ d.text)

theorem saidG_snoc : ∀ (l : List Part) (d : Part) (t : List UInt8), saidG (l ++ [d]) t = saidG l t ++ (if d.last then [⟨d.stream, d.ssn, d.loose, openG l t ++ d.text⟩] else [])
  | [], d, t => by
    simp only [List.nil_append, saidG, openG]
  | e :: l, d, t => by
    simp only [List.cons_append, saidG, openG]
    cases e.last
    · simp [saidG_snoc l d]
    · simp [saidG_snoc l d]
theorem openG_snoc : ∀ (l : List Part) (d : Part) (t : List UInt8), openG (l ++ [d]) t = if d.last then [] else openG l t ++ d.text
  | [], d, t => rfl
  | e :: l, d, t => openG_snoc l d _
theorem saidG_len : ∀ (l : List Part) (t : List UInt8), (saidG l t).length ≤ l.length
  | [], t => Nat.le_refl _
  | d :: l, t => by
    simp only [saidG]
    cases d.last
    · have := saidG_len l (t ++ d.text)
      simp; omega
    · have := saidG_len l []
      simp; omega
theorem openG_len : ∀ (l : List Part) (t : List UInt8), (∀ d ∈ l, d.text.length ≤ 20) → (openG l t).length ≤ t.length + 20 * l.length
  | [], t, _ => by simp [openG]
  | d :: l, t, h => by
    have h1 := openG_len l (if d.last then [] else t ++ d.text) (fun e he => h e (List.mem_cons_of_mem _ he))
    have h3 := h d (List.mem_cons_self ..)
    simp only [openG, List.length_cons]
    revert h1
    cases d.last
    · simp; omega
    · simp; omega

theorem l31Said_ok (l : List Part) (hl : l.length ≤ 1000) (ht : ∀ d ∈ l, d.text.length ≤ 20) : Fn Tryd.prog fn_spec_l31Said [psl l] [] (.sl (some 0) 4 ((saidG l []).map mV)) [] := by
  refine Fn.of_go ln_spec_l31Said rfl ?_
  simp [ac_spec_l31Said, psl]
  refine go_loop (fun i : Nat => { env := [(0, psl l), (3, .sl (some 0) 4 ((saidG (l.take i) []).map mV)), (4, .str (openG (l.take i) [])), (5, .int .i64 (i : Nat))], loc := [], box := [], stat := [(0, some (.own (saidG (l.take i) []).length 4))] }) (fun i => i ≤ l.length) (fun i => l.length - i) 0 (by omega) (Weak.of [(0, some 112, 0, 4)] [] (by simp [psl, saidG, openG])) ?_
  intro i hi
  simp [psl]
  refine goTest_dec (fun hlt => ?_) (fun hge => ?_)
  · have hsn := saidG_snoc (l.take i) (nth l i) []
    have hop := openG_snoc (l.take i) (nth l i) []
    rw [← take_nth hlt] at hsn hop
    have h1 := openG_len (l.take i) [] (fun d hd => ht d (List.mem_of_mem_take hd))
    have h2 := saidG_len (l.take i) []
    have h3 := ht _ (nth_mem hlt)
    have h4 : (l.take i).length = i := by simp; omega
    rw [h4] at h1 h2
    simp only [List.length_nil] at h1
    simp [hlt, pt_v]
    generalize openG (l.take i) [] = t at *
    generalize saidG (l.take i) [] = M at *
    generalize nth l i = d at *
    have hm : mV ⟨d.stream, d.ssn, d.loose, t ++ d.text⟩ = .agg [.int .i64 d.stream, .int .i64 d.ssn, .bool d.loose, .str (t ++ d.text)] := rfl
    refine ⟨by omega, ?_⟩
    cases e2 : d.last
    · rw [e2] at hsn hop
      simp at hsn hop
      simp
      exact ⟨by omega, Again.mk (i + 1) hlt (by omega) (Weak.of [(0, some 0, M.length, 4)] [] (by simp [psl, hsn, hop]))⟩
    · rw [e2] at hsn hop
      simp only [if_true] at hsn hop
      simp
      exact ⟨by unfold roomOk; omega, by omega, Again.mk (i + 1) hlt (by omega) (Weak.of [(0, some 0, M.length + 1, 4)] [] (by simp [psl, hsn, hop, hm]))⟩
  · obtain rfl : i = l.length := by omega
    simp
    exact Ends.mk [(0, some 0, (saidG l []).length, 4)] [] (by simp)

/-- The line of a message, as the reference writes it. -/
theorem msg_line {m : Msg} {n : Nat} (h : m.sm n) : msgT m = decS m.stream.toNat ++ [32] ++ (if m.loose then [45] else decS m.ssn.toNat) ++ [32] ++ hexS m.text := by
  unfold msgT
  rw [h.1, h.2.1]
  rfl

theorem l42Side_ok (name : List UInt8) (s : Side) (hn : name.length ≤ 10) (h : s.ok = true) : Fn Tryd.prog fn_spec_l42Side [.str name, s.v] [] (.str (sideX name s)) [] := by
  refine Fn.of_go ln_spec_l42Side rfl ?_
  have hf := Side.ok_first h
  have f1 := l31Said_ok s.sent (by omega) (side_texts h)
  have f2 := l31Said_ok (s.sent.take s.acked.toNat) (by simp; omega) (fun d hd => side_texts h d (List.mem_of_mem_take hd))
  have e1 := said_eq h s.sent.length
  rw [List.take_length] at e1
  have e2 := said_eq h s.acked.toNat
  have m1 := side_msgs h s.sent.length
  rw [List.take_length] at m1
  rw [e1] at f1
  rw [e2] at f2
  simp only [psl, List.map_take] at f1 f2
  simp [ac_spec_l42Side, side_v, psl]
  refine goCall_eq f1 (by simp) ?_
  simp
  refine ⟨by omega, ?_⟩
  refine goCall_eq f2 (by simp) ?_
  simp
  unfold sideX
  generalize saidF s.sent [] = A at *
  generalize (saidF (s.sent.take s.acked.toNat) []).length = k at *
  refine go_loop (fun i : Nat => { env := [(0, .str name), (5, .str (sideT name k (A.take i))), (6, .sl (some 0) 4 (A.map mV)), (7, .int .i64 (k : Nat)), (8, .int .i64 (i : Nat))], loc := [], box := [], stat := [(0, some (.own A.length 4))] }) (fun i => i ≤ A.length) (fun i => A.length - i) 0 (by omega) (Weak.of [(0, some 176, A.length, 4)] [] (by simp [sideT])) ?_
  intro i hi
  simp
  refine goTest_dec (fun hlt => ?_) (fun hge => ?_)
  · have hs := m1.1 _ (nth_mem hlt)
    have hln := sideT_len (name := name) (n := 240) (A.take i) k (fun m hm => m1.1 m (List.mem_of_mem_take hm))
    have hA : (A.take i).length * (name.length + 2 * 240 + 50) ≤ 12 * (name.length + 2 * 240 + 50) := Nat.mul_le_mul_right _ (by simp; omega)
    have ht := sideT_take name A k i hlt
    have hml := msgT_len hs
    have f3 := l42Message_ok (nth A i) hs.1 hs.2.1 (by have := hs.2.2; omega)
    rw [← msg_line hs] at f3
    generalize sideT name k (A.take i) = T at *
    simp only [mV] at f3
    simp [hlt, mV]
    generalize nth A i = m at *
    refine ⟨by omega, by omega, goCall_eq f3 (by simp) ?_⟩
    simp
    refine ⟨by omega, goTest_dec (fun hk => ?_) (fun hk => ?_)⟩
    · simp
      refine ⟨by omega, by omega, by omega, .mk (i + 1) hlt (by omega) (Weak.of [(0, some 0, A.length, 4)] [] (by simp [ht, lineM, hk, okW]))⟩
    · simp
      refine ⟨by omega, by omega, .mk (i + 1) hlt (by omega) (Weak.of [(0, some 0, A.length, 4)] [] (by simp [ht, lineM, hk]))⟩
  · obtain rfl : i = A.length := by omega
    simp
    exact Ends.mk [] [] (by simp)

theorem sideLines_ok (name : List UInt8) (s : Side) (l : List UInt8) (hn : name.length ≤ 10) (h : s.ok = true) (hl : l.length ≤ 100000000) :
    Fn Tryd.prog fn_impl_sideLines [.ptr 1000 0, .str name, s.v] [[.ptr 1000 0, .bb 5 0 l]] (.tup []) [[.ptr 1000 0, .bb 5 0 (l ++ sideX name s)]] := by
  refine Fn.of_go ln_impl_sideLines rfl ?_
  have hb := Side.ok_bd h
  have f1 := SideKnown_ok s hb h
  have f2 := SideSaid_ok s hb h
  have e1 : saidS s = saidF s.sent [] := by unfold saidS; rw [if_pos h]
  have e2 : knownS s = saidF (s.sent.take s.acked.toNat) [] := by unfold knownS; rw [if_pos h]
  have m1 := side_msgs h s.sent.length
  rw [List.take_length] at m1
  rw [e2] at f1
  rw [e1] at f2
  simp only [side_v, psl] at f1 f2
  simp [ac_impl_sideLines, side_v, psl]
  refine goCall_eq f1 (by simp) ?_
  simp
  refine goCall_eq f2 (by simp) ?_
  simp
  unfold sideX
  generalize saidF s.sent [] = A at *
  generalize saidF (s.sent.take s.acked.toNat) [] = Kn at *
  refine go_loop (fun i : Nat => { env := [(0, .ptr 1000 0), (1, .str name), (6, .int .i64 (Kn.length : Nat)), (13, .sl none 4 (A.map mV)), (14, .int .i64 (A.length : Nat)), (15, .int .i64 (i : Nat))], loc := [], box := [(1000, [.ptr 1000 0, .bb 5 0 (l ++ sideT name Kn.length (A.take i))])], stat := [(0, some (.own (l ++ sideT name Kn.length (A.take i)).length 1))] }) (fun i => i ≤ A.length) (fun i => A.length - i) 0 (by omega) (Weak.of [(0, some 0, l.length, 1)] [(1000, 1000)] (by simp [sideT])) ?_
  intro i hi
  simp
  refine goTest_dec (fun hlt => ?_) (fun hge => ?_)
  · have hs := m1.1 _ (nth_mem hlt)
    have hln := sideT_len (name := name) (n := 240) (A.take i) Kn.length (fun m hm => m1.1 m (List.mem_of_mem_take hm))
    have hA : (A.take i).length * (name.length + 2 * 240 + 50) ≤ 12 * (name.length + 2 * 240 + 50) := Nat.mul_le_mul_right _ (by simp; omega)
    have ht := sideT_take name A Kn.length i hlt
    have hml := msgT_len hs
    have f3 := impl_MessageText_ok (nth A i) (by have := hs.2.2; omega)
    generalize sideT name Kn.length (A.take i) = T at *
    simp only [mV] at f3
    simp [hlt, mV]
    generalize nth A i = m at *
    refine ⟨by omega, goCall_eq f3 (by simp) ?_⟩
    simp
    refine ⟨by omega, ?_⟩
    have w1 := write_used_ok (l ++ T) (name ++ [32] ++ msgT m) (by simp; omega)
    simp at w1
    refine goCall_gen [(0, some 0, l.length + T.length, 1)] [(1000, 1000)] [] [] none w1 (by simp) ?_
    simp
    refine goTest_dec (fun hk => ?_) (fun hk => ?_)
    · have w2 := write_used_ok (l ++ (T ++ (name ++ 32 :: msgT m))) [32, 111, 107] (by simp; omega)
      have w3 := write_used_ok (l ++ (T ++ (name ++ 32 :: (msgT m ++ [32, 111, 107])))) [10] (by simp; omega)
      simp at w2 w3
      simp
      refine goCall_gen [(0, some 416, l.length + (T.length + (name.length + ((msgT m).length + 1))), 1)] [(1000, 1000)] [] [] none w2 (by simp) ?_
      simp
      refine goCall_gen [(0, some 496, l.length + (T.length + (name.length + ((msgT m).length + 3 + 1))), 1)] [(1000, 1000)] [] [] none w3 (by simp) ?_
      simp
      exact ⟨by omega, .mk (i + 1) hlt (by omega) (Weak.of [(0, some 528, l.length + (T.length + (name.length + ((msgT m).length + 3 + 1 + 1))), 1)] [(1000, 1000)] (by simp [ht, lineM, hk, okW]))⟩
    · have w3 := write_used_ok (l ++ (T ++ (name ++ 32 :: msgT m))) [10] (by simp; omega)
      simp at w3
      simp
      refine goCall_gen [(0, some 416, l.length + (T.length + (name.length + ((msgT m).length + 1))), 1)] [(1000, 1000)] [] [] none w3 (by simp) ?_
      simp
      exact ⟨by omega, .mk (i + 1) hlt (by omega) (Weak.of [(0, some 528, l.length + (T.length + (name.length + ((msgT m).length + 1 + 1))), 1)] [(1000, 1000)] (by simp [ht, lineM, hk]))⟩
  · obtain rfl : i = A.length := by omega
    simp
    exact Ends.mk [(0, some 0, (l ++ sideT name Kn.length A).length, 1)] [(1000, 1000)] (by simp)
end

section
set_option maxRecDepth 20000
attribute [-simp] List.getD_eq_getElem?_getD
end

section
set_option maxRecDepth 20000
attribute [-simp] List.getD_eq_getElem?_getD

theorem impl_FindingsText_ok (l : List (Int × Int)) (hl : l.length ≤ 1100000) : Fn Tryd.prog fn_impl_FindingsText [fsl l] [] (.str (ftext l)) [] := by
  refine Fn.of_go ln_impl_FindingsText rfl ?_
  simp [ac_impl_FindingsText, fsl]
  refine goCall_eq (foundOk_ok l 60 (by omega)) (by simp [fsl]) ?_
  simp
  refine goTest_bool (fun hv => ?_) (fun hv => ?_)
  rotate_left
  · simp [hv]
    exact Ends.mk [] [] (by simp [ftext, hv])
  simp [hv]
  have hb := fsOk_all hv
  refine go_loop (fun i => { env := [(9, fsl l), (10, .int .i64 (l.length : Nat)), (3, .str (textF (l.take i))), (11, .int .i64 (i : Nat))], loc := [], box := [], stat := [] }) (fun i => i ≤ l.length) (fun i => l.length - i) 0 (by omega) (Weak.of [] [] (by simp [fsl, textF])) ?_
  intro i hi
  simp [fsl]
  refine goTest_dec (fun hlt => ?_) (fun hge => ?_)
  · have h1 := fOk_range (hb _ (nth_mem hlt))
    have h3 := textF_len (l := l.take i) fun f hf => by have := fOk_range (hb f (List.mem_of_mem_take hf)); omega
    simp at h3
    have hsn := textF_snoc hlt
    obtain ⟨a, ha⟩ := Int.eq_ofNat_of_zero_le h1.1.1
    obtain ⟨b, hb'⟩ := Int.eq_ofNat_of_zero_le h1.2.1
    have a1 := decS_len20 (n := a) (by omega)
    have a2 := decS_len20 (n := b) (by omega)
    have i1 := Itoa_ok (a : Int) (by omega) (by omega)
    have i2 := Itoa_ok (b : Int) (by omega) (by omega)
    rw [itoa_dec] at i1 i2
    simp [hlt, fV]
    rw [ha]
    refine goDCall_eq i1 (by simp) (by simp) ?_
    simp
    rw [hb']
    refine ⟨by omega, goDCall_eq i2 (by simp) (by simp) ?_⟩
    simp
    exact ⟨by omega, by omega, by omega, by omega, .mk (i + 1) hlt (by omega) (Weak.of [] [] (by simp [fsl, hsn, lineT, ha, hb']))⟩
  · obtain rfl : i = l.length := by omega
    simp
    exact Ends.mk [] [] (by simp [ftext, hv])

theorem szFindingS_ok (l : List (Int × Int)) (n : Int) (hn : 0 ≤ n ∧ n < 1000000000000) (hl : (l.length : Int) ≤ 9223372036854775807) : Fn Tryd.prog fn_laws_szFindingS [fsl l, .int .i64 n] [] (.int .i64 (if n - l.length < 0 then -1 else n - l.length)) [] := by
  refine Fn.of_go ln_laws_szFindingS rfl ?_
  simp [ac_laws_szFindingS, fsl]
  refine ⟨by omega, goTest_dec (fun h => ?_) (fun h => ?_)⟩
  · simp [h]
    exact Ends.mk [] [] (by simp)
  · simp [h]
    exact Ends.mk [] [] (by simp)

theorem toFinding_ok (f : Int × Int) : Fn Tryd.prog fn_laws_toFinding [fV f] [] (fV f) [] := by
  refine Fn.of_go ln_laws_toFinding rfl ?_
  simp [ac_laws_toFinding, fV]
  exact Ends.mk [] [] (by simp)

theorem setEl_both {l : List (Int × Int)} {j : Nat} {x : Int × Int} (h : j < l.length) : setEl j 0 [V.int .i64 x.1, V.int .i64 x.2] (l.map fV) = (l.set j x).map fV := by
  unfold setEl
  rw [getD_map h, List.map_set]
  simp [fV, wrEl, setCells]

/-- A list that is filled from its head on. -/
def zl (l : List (Int × Int)) (i : Nat) : List (Int × Int) := l.take i ++ List.replicate (l.length - i) (0, 0)
theorem zl_len {l : List (Int × Int)} {i : Nat} (h : i ≤ l.length) : (zl l i).length = l.length := by simp [zl]; omega
theorem zl_set {l : List (Int × Int)} {i : Nat} (h : i < l.length) : (zl l i).set i (nth l i) = zl l (i + 1) := by
  have e1 : l.length - i = (l.length - (i + 1)) + 1 := by omega
  have e2 : (l.take i).length = i := by simp; omega
  unfold zl
  rw [take_nth h, e1, List.replicate_succ, List.set_append_right _ _ (by omega), e2]
  simp
theorem zl_end (l : List (Int × Int)) : zl l l.length = l := by simp [zl]

theorem toFindingS_ok (l : List (Int × Int)) (hl : l.length ≤ 1100000) : Fn Tryd.prog fn_laws_toFindingS [fsl l] [] (.sl (some 0) 2 (l.map fV)) [] := by
  refine Fn.of_go ln_laws_toFindingS rfl ?_
  simp [ac_laws_toFindingS, fsl]
  refine ⟨by simp [roomOk]; omega, ?_⟩
  refine go_loop (fun i => { env := [(0, fsl l), (3, .sl (some 0) 2 ((zl l i).map fV)), (4, .int .i64 (i : Nat))], loc := [], box := [], stat := [(0, some (.own l.length 2))] }) (fun i => i ≤ l.length) (fun i => l.length - i) 0 (by omega) (Weak.of [(0, some 112, l.length, 2)] [] (by simp [fsl, zl, fV])) ?_
  intro i hi
  have hz := zl_len hi
  simp [fsl]
  refine goTest_dec (fun hlt => ?_) (fun hge => ?_)
  · have hs := zl_set hlt
    have hlz : i < (zl l i).length := by omega
    have he := setEl_both (l := zl l i) (x := nth l i) hlz
    simp [hlt, fV]
    refine goCall_eq (toFinding_ok (nth l i)) (by simp [fV]) ?_
    simp [fV, hz, hlt, he, hs]
    exact ⟨by omega, .mk (i + 1) hlt (by omega) (Weak.of [(0, some 0, l.length, 2)] [] (by simp [fsl]))⟩
  · obtain rfl : i = l.length := by omega
    simp [zl_end]
    exact Ends.mk [(0, some 0, l.length, 2)] [] (by simp)
end

section
set_option maxRecDepth 200000
set_option maxHeartbeats 8000000
attribute [-simp] List.getD_eq_getElem?_getD

theorem fsOk_60 {n : Int} {l : List (Int × Int)} (hn : n ≤ 60) (h : fsOk n l = true) : fsOk 60 l = true := by
  unfold fsOk at h ⊢
  rw [allTo_iff] at h ⊢
  intro i hi
  have := h i hi
  simp only [fsP, fOk, inB, Bool.and_eq_true, Bool.or_eq_true, decide_eq_true_eq] at this ⊢
  refine ⟨⟨?_, this.1.2⟩, this.2⟩
  omega

theorem state_word (n : Nat) (h : n < 8) : [V.str [110, 101, 119], V.str [105, 110, 105, 116], V.str [105, 110, 105, 116, 97, 99, 107], V.str [99, 111, 111, 107, 105, 101], V.str [111, 112, 101, 110], V.str [115, 104, 117, 116], V.str [115, 104, 117, 116, 97, 99, 107], V.str [111, 118, 101, 114]].getD n .undef = .str (nth stateWs n) := by
  match n, h with
  | 0, _ => rfl
  | 1, _ => rfl
  | 2, _ => rfl
  | 3, _ => rfl
  | 4, _ => rfl
  | 5, _ => rfl
  | 6, _ => rfl
  | 7, _ => rfl

theorem assoc_facts {x : Assoc} (h : x.ok = true) : (1 ≤ x.src ∧ x.src ≤ 65535) ∧ (1 ≤ x.dst ∧ x.dst ≤ 65535) ∧ (0 ≤ x.state ∧ x.state ≤ 7) ∧ x.a.ok = true ∧ x.b.ok = true := by
  unfold Assoc.ok at h
  simp only [inB, Bool.and_eq_true, decide_eq_true_eq] at h
  obtain ⟨⟨⟨⟨⟨⟨⟨⟨⟨h1, h2⟩, h3⟩, h4⟩, h5⟩, h6⟩, h7⟩, h8⟩, h9⟩, h10⟩ := h
  exact ⟨by omega, by omega, by omega, h5, h6⟩

theorem assocT_len {x : Assoc} (h : x.ok = true) : (assocT x).length ≤ 16100 := by
  obtain ⟨h1, h2, h3, h4, h5⟩ := assoc_facts h
  have a1 := headT_len h (by omega) (by omega)
  have a2 := sideX_len h4 (name := [97]) (by simp)
  have a3 := sideX_len h5 (name := [98]) (by simp)
  unfold assocT
  simp
  omega

theorem listT_len : ∀ {l : List Assoc}, (∀ x ∈ l, x.ok = true) → (listT l).length ≤ 16100 * l.length
  | [], _ => by simp [listT]
  | x :: r, h => by
    have h1 := assocT_len (h x (List.mem_cons_self ..))
    have h2 := listT_len (l := r) fun y hy => h y (List.mem_cons_of_mem _ hy)
    have e : listT (x :: r) = assocT x ++ listT r := by simp [listT]
    rw [e, List.length_append, List.length_cons]
    omega

theorem spec_ReportText_ok (m : Monitor) (hm : m.bd) : Fn Tryd.prog fn_spec_ReportText [m.v] [] (.str (reportT m)) [] := by
  refine Fn.of_go ln_spec_ReportText rfl ?_
  have f1 := spec_MonitorValid_ok m hm
  simp only [mon_v] at f1
  simp [ac_spec_ReportText, mon_v]
  refine goCall_eq f1 (by simp) ?_
  cases hok : m.ok
  · simp
    exact Ends.mk [] [] (by simp [reportT, hok])
  have mo := mon_iff.1 hok
  have hrec := mo.recs
  obtain ⟨rc, hrc⟩ := Int.eq_ofNat_of_zero_le hrec.1
  have f2 := decPos_ok rc (by omega) (by omega)
  have a1 := decS_len20 (n := rc) (by omega)
  have hl3 := mo.len
  simp
  rw [hrc]
  refine goCall_eq f2 (by simp) ?_
  simp
  refine ⟨by omega, by omega, ?_⟩
  have er : recT m = [114, 101, 99, 111, 114, 100, 115, 32] ++ decS rc ++ [10] := by unfold recT; rw [hrc]; rfl
  have erl : (recT m).length ≤ 30 := by rw [er]; simp; omega
  refine go_loop (fun i : Nat => { env := [(1, .ptr 1 0), (3, .str (recT m ++ listT (m.list.take i))), (4, .int .i64 (i : Nat))], loc := [], box := [(1, m.cells)], stat := [] }) (fun i => i ≤ m.list.length) (fun i => m.list.length - i) 0 (by omega) (Weak.of [] [(1, 1)] (by simp [Monitor.cells, fsl, er, listT, hrc])) ?_
  intro i hi
  simp [Monitor.cells, fsl]
  refine goTest_dec (fun hlt => ?_) (fun hge => ?_)
  · have hx := (mo.each _ (nth_mem hlt)).1
    obtain ⟨h1, h2, h3, h4, h5⟩ := assoc_facts hx
    have ht := listT_take hlt
    have hll := listT_len (l := m.list.take i) (fun x hx => (mo.each x (List.mem_of_mem_take hx)).1)
    have hll2 : 16100 * (m.list.take i).length ≤ 16100 * 3 := Nat.mul_le_mul_left _ (by simp; omega)
    have hhd := headT_len hx (by omega) (by omega)
    have hsa := sideX_len h4 (name := [97]) (by simp)
    have hsb := sideX_len h5 (name := [98]) (by simp)
    have f3 := l42Side_ok [97] (nth m.list i).a (by simp) h4
    have f4 := l42Side_ok [98] (nth m.list i).b (by simp) h5
    generalize listT (m.list.take i) = T at *
    have hw := state_word (nth m.list i).state.toNat (by omega)
    have hwl := stateW_len (nth m.list i).state.toNat (by omega)
    have hst : (nth m.list i).state < 8 := by omega
    simp at hw
    simp [hlt, assoc_v, hw, h3.1, hst]
    simp only [side_v] at f3 f4
    generalize nth m.list i = x at *
    obtain ⟨sa, hsr⟩ := Int.eq_ofNat_of_zero_le (show (0 : Int) ≤ x.src by omega)
    obtain ⟨sb, hds⟩ := Int.eq_ofNat_of_zero_le (show (0 : Int) ≤ x.dst by omega)
    have b1 := decS_len20 (n := sa) (by omega)
    have b2 := decS_len20 (n := sb) (by omega)
    have eh : assocT x = [102, 114, 111, 109, 32] ++ decS sa ++ [32, 116, 111, 32] ++ decS sb ++ [32] ++ nth stateWs x.state.toNat ++ [10] ++ sideX [97] x.a ++ sideX [98] x.b := by
      unfold assocT headT
      rw [hsr, hds]
      simp
    rw [hsr, hds]
    refine ⟨by omega, goDCall_eq (decPos_ok sa (by omega) (by omega)) (by simp) (by simp) ?_⟩
    simp
    refine ⟨by omega, by omega, goDCall_eq (decPos_ok sb (by omega) (by omega)) (by simp) (by simp) ?_⟩
    simp
    refine ⟨by omega, by omega, by omega, by omega, goDCall_eq f3 (by simp) (by simp) ?_⟩
    simp
    refine ⟨by omega, goDCall_eq f4 (by simp) (by simp) ?_⟩
    simp
    exact ⟨by omega, by omega, .mk (i + 1) hlt (by omega) (Weak.of [] [(1, 1)] (by simp [Monitor.cells, fsl, ht, eh]))⟩
  · obtain rfl : i = m.list.length := by omega
    have hll := listT_len (l := m.list) (fun x hx => (mo.each x hx).1)
    have hff := hm.found
    have c1 := decPos_ok m.found.length (by omega) (by omega)
    have c2 := decS_len20 (n := m.found.length) (by omega)
    have hfo := fsOk_all mo.found
    have c3 := l42Text_ok m.found (by omega) (fun f hf => by have := fOk_range (hfo f hf); omega)
    have c4 := textF_len (l := m.found) fun f hf => by have := fOk_range (hfo f hf); omega
    simp only [fsl] at c3
    simp
    refine ⟨by omega, goDCall_eq c1 (by simp) (by simp) ?_⟩
    simp
    refine ⟨by omega, by omega, goDCall_eq c3 (by simp) (by simp) ?_⟩
    simp
    refine ⟨by omega, ?_⟩
    exact Ends.mk [] [] (by simp [reportT, hok, endT])

theorem impl_ReportText_ok (m : Monitor) (hm : m.bd) : Fn Tryd.prog fn_impl_ReportText [m.v] [] (.str (reportT m)) [] := by
  refine Fn.of_go ln_impl_ReportText rfl ?_
  have f1 := impl_MonitorValid_ok m hm
  simp only [mon_v] at f1
  simp [ac_impl_ReportText, mon_v]
  refine goCall_eq f1 (by simp) ?_
  cases hok : m.ok
  · simp
    exact Ends.mk [] [] (by simp [reportT, hok])
  have mo := mon_iff.1 hok
  have hrec := mo.recs
  obtain ⟨rc, hrc⟩ := Int.eq_ofNat_of_zero_le hrec.1
  have f2 := Itoa_ok (rc : Int) (by omega) (by omega)
  rw [itoa_dec] at f2
  have a1 := decS_len20 (n := rc) (by omega)
  have hl3 := mo.len
  have hal := hm.len
  simp
  rw [hrc]
  refine goCall_eq f2 (by simp) ?_
  simp
  refine ⟨by omega, by omega, ?_⟩
  have er : recT m = [114, 101, 99, 111, 114, 100, 115, 32] ++ decS rc ++ [10] := by unfold recT; rw [hrc]; rfl
  have erl : (recT m).length ≤ 30 := by rw [er]; simp; omega
  have w0 := write_fresh_ok (recT m) (by omega)
  rw [er] at w0
  simp at w0
  refine goCall_gen [] [(1000, 4)] [] [] none w0 (by simp) ?_
  simp
  refine go_loop (fun i : Nat => { env := [(1, .ptr 1 0), (3, .ptr 3 0), (4, .ptr 4 0), (18, .sl none 14 (m.list.map Assoc.v)), (19, .int .i64 (m.list.length : Nat)), (20, .int .i64 (i : Nat))], loc := [], box := [(1, m.cells), (3, stateWs.map V.str), (4, [.ptr 4 0, .bb 5 0 (recT m ++ listT (m.list.take i))])], stat := [(0, some (.own (recT m ++ listT (m.list.take i)).length 1))] }) (fun i => i ≤ m.list.length) (fun i => m.list.length - i) 0 (by omega)
    (Weak.of [(0, some 256, (recT m).length, 1)] [(1, 1), (3, 3), (4, 4)] (by simp [Monitor.cells, fsl, er, listT, hrc, stateWs])) ?_
  intro i hi
  simp [Monitor.cells, fsl, stateWs]
  refine goTest_dec (fun hlt => ?_) (fun hge => ?_)
  · have hx := (mo.each _ (nth_mem hlt)).1
    obtain ⟨h1, h2, h3, h4, h5⟩ := assoc_facts hx
    have ht := listT_take hlt
    have hll := listT_len (l := m.list.take i) (fun x hx => (mo.each x (List.mem_of_mem_take hx)).1)
    have hll2 : 16100 * (m.list.take i).length ≤ 16100 * 3 := Nat.mul_le_mul_left _ (by simp; omega)
    have hhd := headT_len hx (by omega) (by omega)
    have hsa := sideX_len h4 (name := [97]) (by simp)
    have hsb := sideX_len h5 (name := [98]) (by simp)
    have w1 := write_used_ok (recT m ++ listT (m.list.take i)) (headT (nth m.list i)) (by simp; omega)
    have f3 := sideLines_ok [97] (nth m.list i).a (recT m ++ listT (m.list.take i) ++ headT (nth m.list i)) (by simp) h4 (by simp; omega)
    have f4 := sideLines_ok [98] (nth m.list i).b (recT m ++ listT (m.list.take i) ++ headT (nth m.list i) ++ sideX [97] (nth m.list i).a) (by simp) h5 (by simp; omega)
    generalize listT (m.list.take i) = T at *
    have hw := state_word (nth m.list i).state.toNat (by omega)
    have hwl := stateW_len (nth m.list i).state.toNat (by omega)
    have hst : (nth m.list i).state < 8 := by omega
    simp at hw
    simp [hlt, assoc_v, hw, h3.1, hst]
    simp only [side_v] at f3 f4
    generalize nth m.list i = x at *
    obtain ⟨sa, hsr⟩ := Int.eq_ofNat_of_zero_le (show (0 : Int) ≤ x.src by omega)
    obtain ⟨sb, hds⟩ := Int.eq_ofNat_of_zero_le (show (0 : Int) ≤ x.dst by omega)
    have b1 := decS_len20 (n := sa) (by omega)
    have b2 := decS_len20 (n := sb) (by omega)
    have i1 := Itoa_ok (sa : Int) (by omega) (by omega)
    have i2 := Itoa_ok (sb : Int) (by omega) (by omega)
    rw [itoa_dec] at i1 i2
    have eh : headT x = [102, 114, 111, 109, 32] ++ decS sa ++ [32, 116, 111, 32] ++ decS sb ++ [32] ++ nth stateWs x.state.toNat ++ [10] := by
      unfold headT
      rw [hsr, hds]
      simp
    have ea : assocT x = headT x ++ sideX [97] x.a ++ sideX [98] x.b := rfl
    rw [hsr, hds]
    refine goDCall_eq i1 (by simp) (by simp) ?_
    simp
    refine ⟨by omega, by omega, goDCall_eq i2 (by simp) (by simp) ?_⟩
    simp [hw, h3.1, hst]
    refine ⟨by omega, by omega, by omega, by omega, by omega, ?_⟩
    rw [eh] at w1 f3 f4
    simp at w1 f3 f4
    refine goCall_gen [(0, some 0, (recT m ++ T).length, 1)] [(1000, 4)] [] [] none w1 (by simp) ?_
    simp
    refine goCall_gen [(0, some 640, (recT m ++ T ++ headT x).length, 1)] [(1000, 4)] [] [] none f3 (by simp [eh]) ?_
    simp
    refine goCall_gen [(0, some 688, (recT m ++ T ++ headT x ++ sideX [97] x.a).length, 1)] [(1000, 4)] [] [] none f4 (by simp [eh]) ?_
    simp
    exact ⟨by omega, .mk (i + 1) hlt (by omega) (Weak.of [(0, some 736, (recT m ++ T ++ assocT x).length, 1)] [(1, 1), (3, 3), (4, 4)] (by simp [Monitor.cells, fsl, ht, ea, eh, stateWs]))⟩
  · obtain rfl : i = m.list.length := by omega
    have hll := listT_len (l := m.list) (fun x hx => (mo.each x hx).1)
    have hff := hm.found
    have c1 := Itoa_ok (m.found.length : Int) (by omega) (by omega)
    rw [itoa_dec] at c1
    have c2 := decS_len20 (n := m.found.length) (by omega)
    have hfo := fsOk_all mo.found
    have c3 := impl_FindingsText_ok m.found (by omega)
    have c4 := textF_len (l := m.found) fun f hf => by have := fOk_range (hfo f hf); omega
    have c5 : ftext m.found = textF m.found := by unfold ftext; rw [if_pos (fsOk_60 (by omega) mo.found)]
    rw [c5] at c3
    simp only [fsl] at c3
    have w1 := write_used_ok (recT m ++ listT m.list) (endT m) (by unfold endT; simp; omega)
    have w2 := string_ok (recT m ++ listT m.list ++ endT m) (by simp [er])
    unfold endT at w1 w2
    simp at w1 w2
    simp
    refine goDCall_eq c1 (by simp) (by simp) ?_
    simp
    refine ⟨by omega, by omega, goDCall_eq c3 (by simp) (by simp) ?_⟩
    simp
    refine ⟨by omega, ?_⟩
    refine goCall_gen [(0, some 0, (recT m ++ listT m.list).length, 1)] [(1000, 4)] [] [] none w1 (by simp) ?_
    simp
    refine goCall_gen [(0, some 928, (recT m ++ listT m.list ++ endT m).length, 1)] [(1000, 4)] [] [] none w2 (by simp [endT]) ?_
    simp
    exact Ends.mk [] [] (by simp [reportT, hok, endT])

end

end Go.Proofs.YtnhhcfbigjpfeaaDoor
