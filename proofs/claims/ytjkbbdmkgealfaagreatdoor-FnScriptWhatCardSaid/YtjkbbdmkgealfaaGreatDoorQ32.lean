/-
  Reports, in plain words.
  The library's builder of strings: its look at itself, and its text, by walks of their own; its writing by the abstract machine.
  The messages of a side in a report: contracts.
  The laws of messages hold.
  Findings as texts by the program; and the laws of findings that speak of their texts.
-/
import Derived.Test.YtjkbbdmkgealfaaGreatDoorQ30
import Derived.Test.YtjkbbdmkgealfaaGreatDoorQ31
import Derived.Test.YtjkbbdmkgealfaaGreatDoorQ18
import Derived.Tactics
import Derived.Tactics2
import Derived.LoopTactic
import Derived.RegionTactic
import Derived.Lib.Builder
import Derived.Lib.UnsafeStr
import Derived.Laws.Externs
import Derived.Test.YtjkbbdmkgealfaaGreatDoorQ19
namespace Go.Proofs.YtjkbbdmkgealfaaGreatDoor
set_option linter.all false
section
set_option maxRecDepth 200000
set_option maxHeartbeats 8000000
attribute [-simp] List.getD_eq_getElem?_getD
def saidG : List Part → List UInt8 → List Msg
  | [], _ => []
  | d :: r, t => if d.last then ⟨d.stream, d.ssn, d.loose, t ++ d.text⟩ :: saidG r [] else saidG r (t ++ d.text)
def chainP : Bool → List Part → Bool
  | _, [] => true
  | b, d :: r => (d.first == b) && chainP d.last r
theorem saidF_chain : ∀ (l : List Part) (b : Bool) (t : List UInt8), chainP b l = true → saidF l t = saidG l (if b then [] else t)
  | [], _, _, _ => rfl
  | d :: r, b, t, h => by
    simp only [chainP, Bool.and_eq_true, beq_iff_eq] at h
    obtain ⟨h1, h2⟩ := h
    have hk : keptT d t = if b then [] else t := by unfold keptT; rw [h1]
    have ih := saidF_chain r d.last (keptT d t ++ d.text) h2
    simp only [saidF, saidG]
    rw [ih, hk]
    cases d.last <;> simp
theorem chainP_take : ∀ (l : List Part) (b : Bool) (k : Nat), chainP b l = true → chainP b (l.take k) = true
  | [], _, k, _ => by simp [chainP]
  | d :: r, b, 0, _ => rfl
  | d :: r, b, k + 1, h => by
    simp only [chainP, Bool.and_eq_true, beq_iff_eq] at h
    simp only [List.take_succ_cons, chainP, Bool.and_eq_true, beq_iff_eq]
    exact ⟨h.1, chainP_take r d.last k h.2⟩
def lastB (p : List Part) : Bool := match p.getLast? with
  | some x => x.last
  | none => true
theorem chain_of : ∀ (l p : List Part), (∀ i, i < l.length → followS (p ++ l.take i) (nth l i) = true) → chainP (lastB p) l = true
  | [], _, _ => rfl
  | d :: r, p, h => by
    simp only [chainP, Bool.and_eq_true, beq_iff_eq]
    refine ⟨?_, ?_⟩
    · have h0 := h 0 (by simp)
      have e : nth (d :: r) 0 = d := rfl
      rw [e] at h0
      simp only [List.take_zero, List.append_nil] at h0
      unfold followS at h0
      unfold lastB
      cases hp : p.getLast? with
      | none =>
        rw [hp] at h0
        simp only [Bool.and_eq_true] at h0
        exact h0.1
      | some x =>
        rw [hp] at h0
        simp only at h0 ⊢
        cases hx : x.last
        · rw [hx] at h0
          simp at h0
          exact h0.1
        · rw [hx] at h0
          simp at h0
          exact h0.1
    · have h2 := chain_of r (p ++ [d]) (fun i hi => by
        have := h (i + 1) (by simpa using hi)
        have e : nth (d :: r) (i + 1) = nth r i := rfl
        rw [e] at this
        simpa using this)
      have e : lastB (p ++ [d]) = d.last := by simp [lastB]
      rw [e] at h2
      exact h2
theorem side_chain {s : Side} (h : s.ok = true) : chainP true s.sent = true := by
  by_cases ht : s.tag = 0
  · have : s.sent = [] := ((side_zero ht).1 h).2.2.1
    simp [this, chainP]
  · have hp := ((side_iff ht).1 h).1
    have := chain_of s.sent [] (fun i hi => by
      have := allTo_iff.1 hp i hi
      simp only [partAt, Bool.and_eq_true] at this
      simpa using this.2)
    exact this
theorem said_eq {s : Side} (h : s.ok = true) (k : Nat) : saidG (s.sent.take k) [] = saidF (s.sent.take k) [] := by
  have := saidF_chain _ true [] (chainP_take _ true k (side_chain h))
  simpa using this.symm
theorem side_parts {s : Side} (h : s.ok = true) : ∀ d ∈ s.sent, d.ok = true := by
  by_cases ht : s.tag = 0
  · have : s.sent = [] := ((side_zero ht).1 h).2.2.1
    simp [this]
  · have hp := ((side_iff ht).1 h).1
    intro d hd
    obtain ⟨i, hi, e⟩ := List.getElem_of_mem hd
    have := allTo_iff.1 hp i hi
    simp only [partAt, Bool.and_eq_true] at this
    rw [nth_eq hi, e] at this
    exact this.1.1.1
def Msg.sm (n : Nat) (m : Msg) : Prop := inS m.stream = true ∧ inS m.ssn = true ∧ m.text.length ≤ n
theorem saidF_sm : ∀ (l : List Part) (t : List UInt8) (n : Nat), (∀ d ∈ l, d.ok = true) → t.length + 20 * l.length ≤ n → ∀ m ∈ saidF l t, m.sm n
  | [], _, _, _, _, m, hm => by simp [saidF] at hm
  | d :: r, t, n, h, hn, m, hm => by
    obtain ⟨p1, p2, p3, p4, p5⟩ := part_facts (h d (List.mem_cons_self ..))
    have hk := keptT_len d t
    have hl : (keptT d t ++ d.text).length + 20 * r.length ≤ n := by rw [List.length_append]; simp only [List.length_cons] at hn; omega
    have ih := saidF_sm r (keptT d t ++ d.text) n (fun e he => h e (List.mem_cons_of_mem _ he)) hl
    simp only [saidF] at hm
    split at hm
    · rcases List.mem_cons.1 hm with rfl | hm
      · exact ⟨p2, p3, by simp only; omega⟩
      · exact ih m hm
    · exact ih m hm
theorem side_msgs {s : Side} (h : s.ok = true) (k : Nat) : (∀ m ∈ saidF (s.sent.take k) [], m.sm 240) ∧ (saidF (s.sent.take k) []).length ≤ 12 := by
  have hl := (Side.ok_first h).2.1
  have hk : (s.sent.take k).length ≤ 12 := by simp; omega
  refine ⟨saidF_sm _ _ _ (fun d hd => side_parts h d (List.mem_of_mem_take hd)) (by simp only [List.length_nil]; omega), ?_⟩
  have := saidF_len (s.sent.take k) []
  omega
def okW : List UInt8 := [32, 111, 107]
def lineM (name : List UInt8) (m : Msg) (ok : Bool) : List UInt8 := name ++ [32] ++ msgT m ++ (if ok then okW else []) ++ [10]
def sideT (name : List UInt8) : Nat → List Msg → List UInt8
  | _, [] => []
  | k, m :: r => lineM name m (decide (0 < k)) ++ sideT name (k - 1) r
theorem sideT_take (name : List UInt8) : ∀ (l : List Msg) (k i : Nat), i < l.length → sideT name k (l.take (i + 1)) = sideT name k (l.take i) ++ lineM name (nth l i) (decide (i < k))
  | [], _, i, h => by simp at h
  | m :: r, k, 0, _ => by simp [sideT, nth]
  | m :: r, k, i + 1, h => by
    have ih := sideT_take name r (k - 1) i (by simpa using h)
    have e : nth (m :: r) (i + 1) = nth r i := rfl
    rw [List.take_succ_cons, List.take_succ_cons, sideT, sideT, ih, e, ← List.append_assoc]
    congr 2
    rw [Bool.eq_iff_iff]
    simp
    omega
theorem msgT_len {m : Msg} {n : Nat} (h : m.sm n) : (msgT m).length ≤ 2 * n + 42 := by
  obtain ⟨h1, h2, h3⟩ := h
  unfold msgT
  simp only [h1, h2, Bool.and_self, if_true]
  simp [inS] at h1 h2
  have a1 := decS_len20 (n := m.stream.toNat) (by omega)
  have a2 := decS_len20 (n := m.ssn.toNat) (by omega)
  have hl := hexS_len m.text
  cases m.loose <;> simp <;> omega
theorem lineM_len {name : List UInt8} {m : Msg} {n : Nat} (h : m.sm n) (ok : Bool) : (lineM name m ok).length ≤ name.length + 2 * n + 50 := by
  have := msgT_len h
  unfold lineM
  cases ok <;> simp [okW] <;> omega
theorem sideT_len {name : List UInt8} {n : Nat} : ∀ (l : List Msg) (k : Nat), (∀ m ∈ l, m.sm n) → (sideT name k l).length ≤ l.length * (name.length + 2 * n + 50)
  | [], _, _ => by simp [sideT]
  | m :: r, k, h => by
    have h1 := lineM_len (name := name) (h m (List.mem_cons_self ..)) (decide (0 < k))
    have h2 := sideT_len (name := name) r (k - 1) (fun x hx => h x (List.mem_cons_of_mem _ hx))
    simp only [sideT, List.length_append, List.length_cons, Nat.add_mul]
    omega
def stateWs : List (List UInt8) := [[110, 101, 119], [105, 110, 105, 116], [105, 110, 105, 116, 97, 99, 107], [99, 111, 111, 107, 105, 101], [111, 112, 101, 110], [115, 104, 117, 116], [115, 104, 117, 116, 97, 99, 107], [111, 118, 101, 114]]
def headT (x : Assoc) : List UInt8 := [102, 114, 111, 109, 32] ++ decS x.src.toNat ++ [32, 116, 111, 32] ++ decS x.dst.toNat ++ [32] ++ nth stateWs x.state.toNat ++ [10]
def sideX (name : List UInt8) (s : Side) : List UInt8 := sideT name (saidF (s.sent.take s.acked.toNat) []).length (saidF s.sent [])
def assocT (x : Assoc) : List UInt8 := headT x ++ sideX [97] x.a ++ sideX [98] x.b
def listT (l : List Assoc) : List UInt8 := l.flatMap assocT
def recT (m : Monitor) : List UInt8 := [114, 101, 99, 111, 114, 100, 115, 32] ++ decS m.records.toNat ++ [10]
def endT (m : Monitor) : List UInt8 := [102, 111, 117, 110, 100, 32] ++ decS m.found.length ++ [10] ++ textF m.found
def reportT (m : Monitor) : List UInt8 := if m.ok then recT m ++ listT m.list ++ endT m else []
theorem sideX_len {s : Side} (h : s.ok = true) {name : List UInt8} (hn : name.length ≤ 10) : (sideX name s).length ≤ 8000 := by
  have h1 := side_msgs h s.sent.length
  rw [List.take_length] at h1
  have h2 := sideT_len (name := name) _ (saidF (s.sent.take s.acked.toNat) []).length h1.1
  have h3 : (saidF s.sent []).length * (name.length + 2 * 240 + 50) ≤ 12 * (name.length + 2 * 240 + 50) := Nat.mul_le_mul_right _ h1.2
  unfold sideX
  omega
theorem stateW_len (n : Nat) (h : n < 8) : (nth stateWs n).length ≤ 7 := by
  have : ∀ n : Fin 8, (nth stateWs n.val).length ≤ 7 := by decide
  exact this ⟨n, h⟩
theorem headT_len {x : Assoc} (h : x.ok = true) (h1 : x.src.toNat < 10 ^ 19) (h2 : x.dst.toNat < 10 ^ 19) : (headT x).length ≤ 60 := by
  have a1 := decS_len20 h1
  have a2 := decS_len20 h2
  have hs := Assoc.ok_state h
  have a3 := stateW_len x.state.toNat (by omega)
  unfold headT
  simp
  omega
theorem listT_take {l : List Assoc} {i : Nat} (h : i < l.length) : listT (l.take (i + 1)) = listT (l.take i) ++ assocT (nth l i) := by
  rw [take_nth h]
  simp [listT]
end
section
open Go.RowKit Go.Lib
theorem sizeBuilder : (Tryz.prog.info? 87).map (·.size) = some 2 := by kernel_rfl
theorem liesBuilder : liesAt Tryz.prog Tryz.prog.depth 87 (2 / Tryz.prog.cellsOf 87) 0 87 1 = true := by kernel_rfl
set_option maxHeartbeats 1000000 in
set_option maxRecDepth 100000 in
theorem cc_used (b : Nat) (w : World) (h0 : w.cell? ⟨b, 0, none⟩ = some (.pointer (some ⟨b, 0, none⟩))) :
    Calls Tryz.prog 86 #[.pointer (some ⟨b, 0, none⟩)] w fun e w' => e = .returned (.tuple #[]) ∧ w' = w := by
  obtain ⟨j, hj, hjs⟩ := Option.map_eq_some_iff.1 sizeBuilder
  go_enter Tryz.func86, Tryz.ntmps86
  go_wp2
  rw [Lib.run_neq_ptr_same w _ Tryz.underlying85 hj]
  go_wp2
  go_end0
  exact ⟨rfl, rfl⟩
set_option maxHeartbeats 1000000 in
set_option maxRecDepth 100000 in
theorem cc_fresh (b : Nat) (w : World) (h0 : w.cell? ⟨b, 0, none⟩ = some (.pointer none)) (hsh : w.shape? b = some (87, 2)) (hfz : w.frozen? ⟨b, 0, none⟩ = false) :
    Calls Tryz.prog 86 #[.pointer (some ⟨b, 0, none⟩)] w fun e w' => e = .returned (.tuple #[]) ∧ w' = w.setCell ⟨b, 0, none⟩ (.pointer (some ⟨b, 0, none⟩)) := by
  obtain ⟨j, hj, hjs⟩ := Option.map_eq_some_iff.1 sizeBuilder
  go_enter Tryz.func86, Tryz.ntmps86
  go_wp2
  rw [Lib.run_to_unsafe w ⟨b, 0, none⟩ Tryz.underlying85 Tryz.underlying180 hj (by rw [hjs]; decide) hsh (Nat.zero_lt_succ 1)]
  simp only [Result.andThen]
  rw [Oper.upon_value]
  go_wp2
  rw [run_callFunc_extern Tryz.func135 (by kernel_rfl) (by kernel_rfl) (by kernel_rfl) (e := Extern.AbiNoEscape.same) (by kernel_rfl)]
  rw [Lib.run_noEscape]
  simp only [Result.andThen]
  rw [Oper.upon_value]
  go_wp2
  rw [Lib.run_from_unsafe w ⟨b, 0, none⟩ Tryz.underlying180 Tryz.underlying85 hj hsh liesBuilder]
  simp only [Result.andThen]
  rw [Oper.upon_value]
  go_wp2
  go_end0
  exact ⟨rfl, rfl⟩
theorem freeze_other {w : World} {g n : Nat} {k : Nat} (h : k ≠ g) : (w.freeze ⟨g, 0, none⟩ n).heap[k]? = w.heap[k]? := by
  unfold World.freeze
  split
  · rfl
  · simp only [Array.getElem?_modify]
    rw [if_neg (fun e => h e.symm)]
theorem freeze_size {w : World} {g n : Nat} : (w.freeze ⟨g, 0, none⟩ n).heap.size = w.heap.size := by
  unfold World.freeze
  split
  · rfl
  · simp
theorem freeze_typ {w : World} {g n k t : Nat} (h : OfType w k t) : OfType (w.freeze ⟨g, 0, none⟩ n) k t := by
  obtain ⟨c, fr, h⟩ := h
  by_cases e : k = g
  · subst e
    unfold World.freeze
    split
    · exact ⟨c, fr, h⟩
    · refine ⟨c, ?_⟩
      simp only [Array.getElem?_modify, if_pos trivial, h]
      exact ⟨_, rfl⟩
  · exact ⟨c, fr, by rw [freeze_other e]; exact h⟩
theorem freeze_rest (w : World) (g n : Nat) : (w.freeze ⟨g, 0, none⟩ n).os = w.os ∧ (w.freeze ⟨g, 0, none⟩ n).tape = w.tape ∧ (w.freeze ⟨g, 0, none⟩ n).output = w.output := by
  unfold World.freeze
  split <;> exact ⟨rfl, rfl, rfl⟩
theorem cellsByte : Tryz.prog.cellsOf 5 = 1 := by kernel_rfl
set_option maxHeartbeats 1000000 in
set_option maxRecDepth 100000 in
theorem string_walk (b g n cap : Nat) (cur : Array Value) (l : List UInt8) (w : World) (h1 : w.cell? ⟨b, 1, none⟩ = some (.slice (some ⟨g, 0, none⟩) l.length cap)) (hg : w.heap[g]? = some (.cells cur 5 (0, 0))) (h0 : l ≠ []) (hn : l.length ≤ cap) (hm : cap ≤ maxLen)
    (hc : l.length ≤ cur.size) (hget : ∀ k (h : k < l.length), cur[k]? = some (.int .u8 l[k].toNat)) :
    Calls Tryz.prog 55 #[.pointer (some ⟨b, 0, none⟩)] w fun e w' => e = .returned (.string ⟨l.toArray⟩) ∧ w' = w.drew.freeze ⟨g, 0, none⟩ l.length := by
  have hl0 : l.length ≠ 0 := by simpa using h0
  have c1 : w.drew.cell? ⟨b, 1, none⟩ = some (.slice (some ⟨g, 0, none⟩) l.length cap) := h1
  have hSD : (Builtin.unsafeSliceData_ #[22] 141 #[.slice (some ⟨g, 0, none⟩) l.length cap]).run Tryz.prog w.drew = .ok (.pointer (some ⟨g, 0, none⟩)) w.drew :=
    Lib.run_unsafeSliceData_row _ _ _ _ _ _ (by omega)
  have hUS : (Builtin.unsafeString_ #[141, 3] 9 #[.pointer (some ⟨g, 0, none⟩), .int .i64 l.length]).run Tryz.prog w.drew = .ok (.string ⟨l.toArray⟩) (w.drew.freeze ⟨g, 0, none⟩ l.length) := by
    refine Lib.run_unsafeString_row w.drew 141 3 9 5 Tryz.underlying141 cellsByte g cur.size (by have hg' : w.drew.heap[g]? = some (.cells cur 5 (0, 0)) := hg; simp [World.shape?, hg']) l h0 (by omega) (by unfold maxLen at hm; omega) ?_
    intro j x hx
    have hj := (List.getElem?_eq_some_iff.1 hx).1
    have hx2 := (List.getElem?_eq_some_iff.1 hx).2
    have hg' : w.drew.heap[g]? = some (.cells cur 5 (0, 0)) := hg
    have e3 : Addr.add ⟨g, 0, none⟩ j = ⟨g, j, none⟩ := by unfold Addr.add; split <;> simp_all
    rw [e3]
    simp only [World.cell?, hg']
    have := hget j hj
    rw [hx2] at this
    simpa using this
  clear hget hc hn
  go_enter Tryz.func55, Tryz.ntmps55
  go_wp2
  go_region
  all_goals (go_wp2; go_ret; exact ⟨rfl, rfl⟩)
section
variable {γ : Ghost} {w : World}
theorem bld_box {K : Ctx} {S : Stats} {x y : V} {γ : Ghost} {w : World} (h : HInv K (boxesOf [[x, y]]) S γ w) : ∃ g c e, γ.bx 1000 = some g ∧ γ.ow g = some (true, 1000) ∧ w.heap[g]? = some (.cells c e (0, 0)) ∧ c.size = 2 ∧
    ∃ u v, c[0]? = some u ∧ c[1]? = some v ∧ VRel S γ w x u ∧ VRel S γ w y v := by
  obtain ⟨g, c, e, q1, q2, q3, q4, q5⟩ := h.box 1000 [x, y] (by simp [boxesOf, boxesFrom, lookB])
  have h0 : 0 < c.size := by rw [q4]; simp
  have h1 : 1 < c.size := by rw [q4]; simp
  exact ⟨g, c, e, q1, q2, q3, q4, c[0], c[1], Array.getElem?_eq_getElem h0, Array.getElem?_eq_getElem h1, q5 0 (by simp) h0, q5 1 (by simp) h1⟩
theorem copyCheck_used_ok (e : Nat) (l : List UInt8) : Fn Tryz.prog 86 [.ptr 1000 0] [[.ptr 1000 0, .bb e 0 l]] (.tup []) [[.ptr 1000 0, .bb e 0 l]] := by
  intro w γ vs hT hH hc
  obtain ⟨v, rfl, hv⟩ := arg1 hc
  obtain ⟨g, rfl, hg⟩ := hv.ptr_inv
  obtain ⟨g2, c, e2, q1, q2, q3, q4, u, v, r1, r2, r3, r4⟩ := bld_box hH
  rw [hg] at q1
  obtain rfl := Option.some.inj q1
  obtain ⟨g3, rfl, hg3⟩ := r3.ptr_inv
  rw [hg] at hg3
  obtain rfl := Option.some.inj hg3
  refine (cc_used g w (by simp only [World.cell?, q3]; simpa using r1)).mono fun e w' ⟨h1, h2⟩ => ?_
  subst h1
  subst h2
  exact ⟨_, γ, rfl, hH, .tup [] [] rfl (fun k h => by simp at h)⟩
theorem copyCheck_fresh_ok : Fn Tryz.prog 86 [.ptr 1000 0] [[.nilb 1000 87, .nils]] (.tup []) [[.ptr 1000 0, .nils]] := by
  intro w γ vs hT hH hc
  obtain ⟨v, rfl, hv⟩ := arg1 hc
  obtain ⟨g, rfl, hg⟩ := hv.ptr_inv
  obtain ⟨g2, c, e2, q1, q2, q3, q4, u, v, r1, r2, r3, r4⟩ := bld_box hH
  rw [hg] at q1
  obtain rfl := Option.some.inj q1
  have ht : OfType w g 87 := by
    cases r3 with
    | base h => cases h
    | nilb h ht =>
      rw [hg] at h
      obtain rfl := Option.some.inj h
      exact ht
  obtain rfl := r3.nilb_inv
  obtain rfl := r4.nils_inv
  obtain ⟨c2, fr, ht⟩ := ht
  rw [q3] at ht
  cases ht
  refine (cc_fresh g w (by simp only [World.cell?, q3]; simpa using r1) (by simp [World.shape?, q3, q4]) (by simp [World.frozen?, q3])).mono fun e w' ⟨h1, h2⟩ => ?_
  subst h1
  rw [setCell_eq_setRow w g 0 c 87 (0, 0) _ q3] at h2
  subst h2
  generalize hcc : c.setIfInBounds 0 (Value.pointer (some ⟨g, 0, none⟩)) = c'
  have hcs : c'.size = 2 := by rw [← hcc]; simpa using q4
  have hc0 : c'[0]? = some (.pointer (some ⟨g, 0, none⟩)) := by rw [← hcc]; simp [q4]
  have hc1 : c'[1]? = some (.slice none 0 0) := by rw [← hcc]; simp [q4] at r2 ⊢; exact r2
  refine ⟨_, γ, rfl, ⟨fun d cs hl => ?_, ⟨fun d k hk => ?_, hH.bxd.2⟩, fun σ top sz q => ?_, fun k x hk => ?_, ⟨hH.av.1, fun k hk => by rw [setRow_size]; exact hH.av.2 k hk⟩, setRow_frame hH.frame (hH.ow g _ q2).2 c'⟩, .tup [] [] rfl (fun k h => by simp at h)⟩
  · simp only [boxesOf, boxesFrom, lookB] at hl
    split at hl
    · rename_i e
      subst e
      obtain rfl := Option.some.inj hl
      refine ⟨g, c', _, hg, q2, setRow_heap w g c c' _ (0, 0) q3, by simpa using hcs, fun k h1 h2 => ?_⟩
      match k, h1 with
      | 0, _ =>
        rw [Array.getElem?_eq_getElem h2] at hc0
        have e := Option.some.inj hc0
        simp only [List.getElem_cons_zero]
        rw [e]
        exact .ptr hg
      | 1, _ =>
        rw [Array.getElem?_eq_getElem h2] at hc1
        have e := Option.some.inj hc1
        simp only [List.getElem_cons_succ, List.getElem_cons_zero]
        rw [e]
        exact .base .nils
    · cases hl
  · have := hH.bxd.1 d k hk
    simp only [boxesOf, boxesFrom, lookB] at this ⊢
    split <;> simp_all
  · simp [resStat, V.stat, V.comps, compsStat, boxesStat, cellsStat, cellStat, lookS] at q
  · have := hH.ow k x hk
    exact ⟨by rw [setRow_size]; exact this.1, this.2⟩
theorem string_ok (l : List UInt8) (h0 : l ≠ []) : Fn Tryz.prog 55 [.ptr 1000 0] [[.ptr 1000 0, .bb 5 0 l]] (.str l) [[.undef, .undef]] := by
  intro w γ vs hT hH hc
  obtain ⟨v, rfl, hv⟩ := arg1 hc
  obtain ⟨g, rfl, hg⟩ := hv.ptr_inv
  obtain ⟨g2, c, e2, q1, q2, q3, q4, u, v, r1, r2, r3, r4⟩ := bld_box hH
  rw [hg] at q1
  obtain rfl := Option.some.inj q1
  have hs : lookS (argStat [V.ptr 1000 0] [[V.ptr 1000 0, V.bb 5 0 l]]) 0 = some (.own l.length 1) := by simp [argStat, compsStat, boxesStat, cellsStat, cellStat, lookS, V.cells]
  rcases of_bb hs r4 with ⟨_, h⟩ | ⟨gb, cap, cur, rfl, s1, s2, s3, s4, s5, s6⟩
  · exact absurd h h0
  have hgw : γ.ow gb = some (false, 0) := by
    rcases hH.sp 0 _ _ hs with ⟨p1, _⟩ | ⟨g3, _, _, p1, p2, _⟩
    · rw [s1] at p1; cases p1
    · rw [s1] at p1
      obtain rfl := Option.some.inj p1
      exact p2
  have hne : gb ≠ g := by rintro rfl; rw [q2] at hgw; simp at hgw
  refine (string_walk g gb 0 cap cur l w (by simp only [World.cell?, q3]; simpa using r2) s2 h0 s4 s5 (by omega) s6).mono fun e w' ⟨h1, h2⟩ => ?_
  subst h1
  subst h2
  have hoth : ∀ k, k ≠ gb → (w.drew.freeze ⟨gb, 0, none⟩ l.length).heap[k]? = w.heap[k]? := fun k hk => freeze_other hk
  have hsz : (w.drew.freeze ⟨gb, 0, none⟩ l.length).heap.size = w.heap.size := freeze_size
  obtain ⟨f1, f2, f3⟩ := freeze_rest w.drew gb l.length
  refine ⟨_, γ, rfl, ⟨fun d cs hl => ?_, ⟨fun d k hk => ?_, hH.bxd.2⟩, fun σ top sz q => ?_, fun k x hk => by rw [hsz]; exact hH.ow k x hk, ⟨hH.av.1, fun k hk => by rw [hsz]; exact hH.av.2 k hk⟩, ?_⟩, .base (.str _ _ rfl)⟩
  · simp only [boxesOf, boxesFrom, lookB] at hl
    split at hl
    · rename_i e
      subst e
      obtain rfl := Option.some.inj hl
      refine ⟨g, c, _, hg, q2, by rw [hoth g hne.symm]; exact q3, by simpa using q4, fun k h1 h2 => ?_⟩
      match k, h1 with
      | 0, _ => exact .base (.undef _)
      | 1, _ => exact .base (.undef _)
    · cases hl
  · have := hH.bxd.1 d k hk
    simp only [boxesOf, boxesFrom, lookB] at this ⊢
    split <;> simp_all
  · simp [resStat, V.stat, V.comps, compsStat, boxesStat, cellsStat, cellStat, lookS, V.cells] at q
  · have hk := hH.frame
    refine ⟨f1.trans hk.os, f2.trans hk.tape, f3.trans hk.output, by rw [hsz]; exact hk.size, fun k hk1 hk2 => ?_, fun k t q => freeze_typ (hk.typ k t q)⟩
    rw [hoth k ?_]
    · exact hk.same k hk1 hk2
    · rintro rfl
      exact hk2 (by simp [Ctx.ofGhost, hgw])
theorem write_used_ok (l s : List UInt8) (h : l.length + s.length ≤ 1000000000) : Fn Tryz.prog fn_strings_Builder_WriteString [.ptr 1000 0, .str s] [[.ptr 1000 0, .bb 5 0 l]] (.tup [.int .i64 s.length, .undef]) [[.ptr 1000 0, .bb 5 0 (l ++ s)]] := by
  refine Fn.of_go ln_strings_Builder_WriteString rfl ?_
  simp [ac_strings_Builder_WriteString]
  refine goCall_gen [(0, some 0, l.length, 1)] [(1000, 1000)] [] [] none (copyCheck_used_ok 5 l) (by simp) ?_
  simp
  refine ⟨by unfold roomOk; omega, ?_⟩
  exact Ends.mk [(0, some 112, l.length + s.length, 1)] [(1000, 1000)] (by simp)
theorem write_fresh_ok (s : List UInt8) (h : s.length ≤ 1000000000) : Fn Tryz.prog fn_strings_Builder_WriteString [.ptr 1000 0, .str s] [[.nilb 1000 87, .nils]] (.tup [.int .i64 s.length, .undef]) [[.ptr 1000 0, .bb 5 0 s]] := by
  refine Fn.of_go ln_strings_Builder_WriteString rfl ?_
  simp [ac_strings_Builder_WriteString]
  refine goCall_gen [] [(1000, 1000)] [] [] none copyCheck_fresh_ok (by simp) ?_
  simp
  refine ⟨by unfold roomOk; omega, ?_⟩
  exact Ends.mk [(0, some 224, s.length, 1)] [(1000, 1000)] (by simp)
end
end
section
set_option maxRecDepth 200000
set_option maxHeartbeats 8000000
attribute [-simp] List.getD_eq_getElem?_getD
def openG : List Part → List UInt8 → List UInt8
  | [], t => t
  | d :: r, t => openG r (if d.last then [] else t ++ d.text)
theorem saidG_snoc : ∀ (l : List Part) (d : Part) (t : List UInt8), saidG (l ++ [d]) t = saidG l t ++ (if d.last then [⟨d.stream, d.ssn, d.loose, openG l t ++ d.text⟩] else [])
  | [], d, t => by
    simp only [List.nil_append, saidG, openG]
  | e :: l, d, t => by
    simp only [List.cons_append, saidG, openG]
    cases e.last
    · simp [saidG_snoc l d]
    · simp [saidG_snoc l d]
theorem openG_snoc : ∀ (l : List Part) (d : Part) (t : List UInt8), openG (l ++ [d]) t = if d.last then [] else openG l t ++ d.text
  | [], d, t => rfl
  | e :: l, d, t => openG_snoc l d _
theorem saidG_len : ∀ (l : List Part) (t : List UInt8), (saidG l t).length ≤ l.length
  | [], t => Nat.le_refl _
  | d :: l, t => by
    simp only [saidG]
    cases d.last
    · have := saidG_len l (t ++ d.text)
      simp; omega
    · have := saidG_len l []
      simp; omega
theorem openG_len : ∀ (l : List Part) (t : List UInt8), (∀ d ∈ l, d.text.length ≤ 20) → (openG l t).length ≤ t.length + 20 * l.length
  | [], t, _ => by simp [openG]
  | d :: l, t, h => by
    have h1 := openG_len l (if d.last then [] else t ++ d.text) (fun e he => h e (List.mem_cons_of_mem _ he))
    have h3 := h d (List.mem_cons_self ..)
    simp only [openG, List.length_cons]
    revert h1
    cases d.last
    · simp; omega
    · simp; omega
theorem l31Said_ok (l : List Part) (hl : l.length ≤ 1000) (ht : ∀ d ∈ l, d.text.length ≤ 20) : Fn Tryz.prog fn_spec_l31Said [psl l] [] (.sl (some 0) 4 ((saidG l []).map mV)) [] := by
  refine Fn.of_go ln_spec_l31Said rfl ?_
  simp [ac_spec_l31Said, psl]
  refine go_loop (fun i : Nat => { env := [(0, psl l), (3, .sl (some 0) 4 ((saidG (l.take i) []).map mV)), (4, .str (openG (l.take i) [])), (5, .int .i64 (i : Nat))], loc := [], box := [], stat := [(0, some (.own (saidG (l.take i) []).length 4))] }) (fun i => i ≤ l.length) (fun i => l.length - i) 0 (by omega) (Weak.of [(0, some 112, 0, 4)] [] (by simp [psl, saidG, openG])) ?_
  intro i hi
  simp [psl]
  refine goTest_dec (fun hlt => ?_) (fun hge => ?_)
  · have hsn := saidG_snoc (l.take i) (nth l i) []
    have hop := openG_snoc (l.take i) (nth l i) []
    rw [← take_nth hlt] at hsn hop
    have h1 := openG_len (l.take i) [] (fun d hd => ht d (List.mem_of_mem_take hd))
    have h2 := saidG_len (l.take i) []
    have h3 := ht _ (nth_mem hlt)
    have h4 : (l.take i).length = i := by simp; omega
    rw [h4] at h1 h2
    simp only [List.length_nil] at h1
    simp [hlt, pt_v]
    generalize openG (l.take i) [] = t at *
    generalize saidG (l.take i) [] = M at *
    generalize nth l i = d at *
    have hm : mV ⟨d.stream, d.ssn, d.loose, t ++ d.text⟩ = .agg [.int .i64 d.stream, .int .i64 d.ssn, .bool d.loose, .str (t ++ d.text)] := rfl
    refine ⟨by omega, ?_⟩
    cases e2 : d.last
    · rw [e2] at hsn hop
      simp at hsn hop
      simp
      exact ⟨by omega, Again.mk (i + 1) hlt (by omega) (Weak.of [(0, some 0, M.length, 4)] [] (by simp [psl, hsn, hop]))⟩
    · rw [e2] at hsn hop
      simp only [if_true] at hsn hop
      simp
      exact ⟨by unfold roomOk; omega, by omega, Again.mk (i + 1) hlt (by omega) (Weak.of [(0, some 0, M.length + 1, 4)] [] (by simp [psl, hsn, hop, hm]))⟩
  · obtain rfl : i = l.length := by omega
    simp
    exact Ends.mk [(0, some 0, (saidG l []).length, 4)] [] (by simp)
theorem msg_line {m : Msg} {n : Nat} (h : m.sm n) : msgT m = decS m.stream.toNat ++ [32] ++ (if m.loose then [45] else decS m.ssn.toNat) ++ [32] ++ hexS m.text := by
  unfold msgT
  rw [h.1, h.2.1]
  rfl
theorem l42Side_ok (name : List UInt8) (s : Side) (hn : name.length ≤ 10) (h : s.ok = true) : Fn Tryz.prog fn_spec_l42Side [.str name, s.v] [] (.str (sideX name s)) [] := by
  refine Fn.of_go ln_spec_l42Side rfl ?_
  have hf := Side.ok_first h
  have f1 := l31Said_ok s.sent (by omega) (side_texts h)
  have f2 := l31Said_ok (s.sent.take s.acked.toNat) (by simp; omega) (fun d hd => side_texts h d (List.mem_of_mem_take hd))
  have e1 := said_eq h s.sent.length
  rw [List.take_length] at e1
  have e2 := said_eq h s.acked.toNat
  have m1 := side_msgs h s.sent.length
  rw [List.take_length] at m1
  rw [e1] at f1
  rw [e2] at f2
  simp only [psl, List.map_take] at f1 f2
  simp [ac_spec_l42Side, side_v, psl]
  refine goCall_eq f1 (by simp) ?_
  simp
  refine ⟨by omega, ?_⟩
  refine goCall_eq f2 (by simp) ?_
  simp
  unfold sideX
  generalize saidF s.sent [] = A at *
  generalize (saidF (s.sent.take s.acked.toNat) []).length = k at *
  refine go_loop (fun i : Nat => { env := [(0, .str name), (5, .str (sideT name k (A.take i))), (6, .sl (some 0) 4 (A.map mV)), (7, .int .i64 (k : Nat)), (8, .int .i64 (i : Nat))], loc := [], box := [], stat := [(0, some (.own A.length 4))] }) (fun i => i ≤ A.length) (fun i => A.length - i) 0 (by omega) (Weak.of [(0, some 176, A.length, 4)] [] (by simp [sideT])) ?_
  intro i hi
  simp
  refine goTest_dec (fun hlt => ?_) (fun hge => ?_)
  · have hs := m1.1 _ (nth_mem hlt)
    have hln := sideT_len (name := name) (n := 240) (A.take i) k (fun m hm => m1.1 m (List.mem_of_mem_take hm))
    have hA : (A.take i).length * (name.length + 2 * 240 + 50) ≤ 12 * (name.length + 2 * 240 + 50) := Nat.mul_le_mul_right _ (by simp; omega)
    have ht := sideT_take name A k i hlt
    have hml := msgT_len hs
    have f3 := l42Message_ok (nth A i) hs.1 hs.2.1 (by have := hs.2.2; omega)
    rw [← msg_line hs] at f3
    generalize sideT name k (A.take i) = T at *
    simp only [mV] at f3
    simp [hlt, mV]
    generalize nth A i = m at *
    refine ⟨by omega, by omega, goCall_eq f3 (by simp) ?_⟩
    simp
    refine ⟨by omega, goTest_dec (fun hk => ?_) (fun hk => ?_)⟩
    · simp
      refine ⟨by omega, by omega, by omega, .mk (i + 1) hlt (by omega) (Weak.of [(0, some 0, A.length, 4)] [] (by simp [ht, lineM, hk, okW]))⟩
    · simp
      refine ⟨by omega, by omega, .mk (i + 1) hlt (by omega) (Weak.of [(0, some 0, A.length, 4)] [] (by simp [ht, lineM, hk]))⟩
  · obtain rfl : i = A.length := by omega
    simp
    exact Ends.mk [] [] (by simp)
theorem sideLines_ok (name : List UInt8) (s : Side) (l : List UInt8) (hn : name.length ≤ 10) (h : s.ok = true) (hl : l.length ≤ 100000000) :
    Fn Tryz.prog fn_impl_sideLines [.ptr 1000 0, .str name, s.v] [[.ptr 1000 0, .bb 5 0 l]] (.tup []) [[.ptr 1000 0, .bb 5 0 (l ++ sideX name s)]] := by
  refine Fn.of_go ln_impl_sideLines rfl ?_
  have hb := Side.ok_bd h
  have f1 := SideKnown_ok s hb h
  have f2 := SideSaid_ok s hb h
  have e1 : saidS s = saidF s.sent [] := by unfold saidS; rw [if_pos h]
  have e2 : knownS s = saidF (s.sent.take s.acked.toNat) [] := by unfold knownS; rw [if_pos h]
  have m1 := side_msgs h s.sent.length
  rw [List.take_length] at m1
  rw [e2] at f1
  rw [e1] at f2
  simp only [side_v, psl] at f1 f2
  simp [ac_impl_sideLines, side_v, psl]
  refine goCall_eq f1 (by simp) ?_
  simp
  refine goCall_eq f2 (by simp) ?_
  simp
  unfold sideX
  generalize saidF s.sent [] = A at *
  generalize saidF (s.sent.take s.acked.toNat) [] = Kn at *
  refine go_loop (fun i : Nat => { env := [(0, .ptr 1000 0), (1, .str name), (6, .int .i64 (Kn.length : Nat)), (13, .sl none 4 (A.map mV)), (14, .int .i64 (A.length : Nat)), (15, .int .i64 (i : Nat))], loc := [], box := [(1000, [.ptr 1000 0, .bb 5 0 (l ++ sideT name Kn.length (A.take i))])], stat := [(0, some (.own (l ++ sideT name Kn.length (A.take i)).length 1))] }) (fun i => i ≤ A.length) (fun i => A.length - i) 0 (by omega) (Weak.of [(0, some 0, l.length, 1)] [(1000, 1000)] (by simp [sideT])) ?_
  intro i hi
  simp
  refine goTest_dec (fun hlt => ?_) (fun hge => ?_)
  · have hs := m1.1 _ (nth_mem hlt)
    have hln := sideT_len (name := name) (n := 240) (A.take i) Kn.length (fun m hm => m1.1 m (List.mem_of_mem_take hm))
    have hA : (A.take i).length * (name.length + 2 * 240 + 50) ≤ 12 * (name.length + 2 * 240 + 50) := Nat.mul_le_mul_right _ (by simp; omega)
    have ht := sideT_take name A Kn.length i hlt
    have hml := msgT_len hs
    have f3 := impl_MessageText_ok (nth A i) (by have := hs.2.2; omega)
    generalize sideT name Kn.length (A.take i) = T at *
    simp only [mV] at f3
    simp [hlt, mV]
    generalize nth A i = m at *
    refine ⟨by omega, goCall_eq f3 (by simp) ?_⟩
    simp
    refine ⟨by omega, ?_⟩
    have w1 := write_used_ok (l ++ T) (name ++ [32] ++ msgT m) (by simp; omega)
    simp at w1
    refine goCall_gen [(0, some 0, l.length + T.length, 1)] [(1000, 1000)] [] [] none w1 (by simp) ?_
    simp
    refine goTest_dec (fun hk => ?_) (fun hk => ?_)
    · have w2 := write_used_ok (l ++ (T ++ (name ++ 32 :: msgT m))) [32, 111, 107] (by simp; omega)
      have w3 := write_used_ok (l ++ (T ++ (name ++ 32 :: (msgT m ++ [32, 111, 107])))) [10] (by simp; omega)
      simp at w2 w3
      simp
      refine goCall_gen [(0, some 416, l.length + (T.length + (name.length + ((msgT m).length + 1))), 1)] [(1000, 1000)] [] [] none w2 (by simp) ?_
      simp
      refine goCall_gen [(0, some 496, l.length + (T.length + (name.length + ((msgT m).length + 3 + 1))), 1)] [(1000, 1000)] [] [] none w3 (by simp) ?_
      simp
      exact ⟨by omega, .mk (i + 1) hlt (by omega) (Weak.of [(0, some 528, l.length + (T.length + (name.length + ((msgT m).length + 3 + 1 + 1))), 1)] [(1000, 1000)] (by simp [ht, lineM, hk, okW]))⟩
    · have w3 := write_used_ok (l ++ (T ++ (name ++ 32 :: msgT m))) [10] (by simp; omega)
      simp at w3
      simp
      refine goCall_gen [(0, some 416, l.length + (T.length + (name.length + ((msgT m).length + 1))), 1)] [(1000, 1000)] [] [] none w3 (by simp) ?_
      simp
      exact ⟨by omega, .mk (i + 1) hlt (by omega) (Weak.of [(0, some 528, l.length + (T.length + (name.length + ((msgT m).length + 1 + 1))), 1)] [(1000, 1000)] (by simp [ht, lineM, hk]))⟩
  · obtain rfl : i = A.length := by omega
    simp
    exact Ends.mk [(0, some 0, (l ++ sideT name Kn.length A).length, 1)] [(1000, 1000)] (by simp)
end
section
set_option maxRecDepth 20000
attribute [-simp] List.getD_eq_getElem?_getD
end
section
set_option maxRecDepth 20000
attribute [-simp] List.getD_eq_getElem?_getD
theorem impl_FindingsText_ok (l : List (Int × Int)) (hl : l.length ≤ 1100000) : Fn Tryz.prog fn_impl_FindingsText [fsl l] [] (.str (ftext l)) [] := by
  refine Fn.of_go ln_impl_FindingsText rfl ?_
  simp [ac_impl_FindingsText, fsl]
  refine goCall_eq (foundOk_ok l 60 (by omega)) (by simp [fsl]) ?_
  simp
  refine goTest_bool (fun hv => ?_) (fun hv => ?_)
  rotate_left
  · simp [hv]
    exact Ends.mk [] [] (by simp [ftext, hv])
  simp [hv]
  have hb := fsOk_all hv
  refine go_loop (fun i => { env := [(9, fsl l), (10, .int .i64 (l.length : Nat)), (3, .str (textF (l.take i))), (11, .int .i64 (i : Nat))], loc := [], box := [], stat := [] }) (fun i => i ≤ l.length) (fun i => l.length - i) 0 (by omega) (Weak.of [] [] (by simp [fsl, textF])) ?_
  intro i hi
  simp [fsl]
  refine goTest_dec (fun hlt => ?_) (fun hge => ?_)
  · have h1 := fOk_range (hb _ (nth_mem hlt))
    have h3 := textF_len (l := l.take i) fun f hf => by have := fOk_range (hb f (List.mem_of_mem_take hf)); omega
    simp at h3
    have hsn := textF_snoc hlt
    obtain ⟨a, ha⟩ := Int.eq_ofNat_of_zero_le h1.1.1
    obtain ⟨b, hb'⟩ := Int.eq_ofNat_of_zero_le h1.2.1
    have a1 := decS_len20 (n := a) (by omega)
    have a2 := decS_len20 (n := b) (by omega)
    have i1 := Itoa_ok (a : Int) (by omega) (by omega)
    have i2 := Itoa_ok (b : Int) (by omega) (by omega)
    rw [itoa_dec] at i1 i2
    simp [hlt, fV]
    rw [ha]
    refine goDCall_eq i1 (by simp) (by simp) ?_
    simp
    rw [hb']
    refine ⟨by omega, goDCall_eq i2 (by simp) (by simp) ?_⟩
    simp
    exact ⟨by omega, by omega, by omega, by omega, .mk (i + 1) hlt (by omega) (Weak.of [] [] (by simp [fsl, hsn, lineT, ha, hb']))⟩
  · obtain rfl : i = l.length := by omega
    simp
    exact Ends.mk [] [] (by simp [ftext, hv])
end
end Go.Proofs.YtjkbbdmkgealfaaGreatDoor
