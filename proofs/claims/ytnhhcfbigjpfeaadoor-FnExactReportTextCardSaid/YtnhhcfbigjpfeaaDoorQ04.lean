/-
  Parts of structs and arrays, elements, literals of structs, loads.
-/
import Derived.Test.YtnhhcfbigjpfeaaDoorQ03
import Derived.Laws.Tables
namespace Go.Proofs.YtnhhcfbigjpfeaaDoor
set_option linter.all false

section

/-- Cells, one by one. -/
def CellsRel (S : Stats) (γ : Ghost) (w : World) (cs : List V) (vs : List Value) : Prop :=
  vs.length = cs.length ∧ ∀ k (h : k < cs.length) (h' : k < vs.length), VRel S γ w (cs[k]) (vs[k])

section ops
variable {P : Program} {L : Nat → Bool} {n : Nat} {K : Ctx} {st : St} {γ : Ghost} {a : Act} {w : World} {o : Oper} {dst : AD}

theorem part_rel {S : Stats} {cs : List V} {vs : List Value} (h : CellsRel S γ w cs vs) {t : TypeId} {g : Bool} {m off : Nat} (hg : aggT P t = some g) (hm : sizeT P t = some m) (h1 : g = true ∨ m = 1)
    (hb : off + m ≤ cs.length) : ∃ v, (Go.part t vs.toArray off).run P w = .ok v w ∧ VRel S γ w (part g m off cs) v := by
  obtain ⟨hl, he⟩ := h
  cases g with
  | true =>
    refine ⟨.agg (vs.toArray.extract off (off + m)), ?_, ?_⟩
    · simp [Go.part, run_aggT hg, run_sizeT hm]
    · have e : vs.toArray.extract off (off + m) = ((vs.drop off).take m).toArray := by simp [List.extract_toArray, List.extract]
      rw [e]
      refine .agg _ _ (by simp [hl]) (fun k hk hk' => ?_)
      simp only [List.getElem_take, List.getElem_drop]
      exact he _ _ _
  | false =>
    obtain rfl : m = 1 := by simpa using h1
    have hk : off < cs.length := by omega
    have hk' : off < vs.length := by omega
    refine ⟨vs[off], ?_, ?_⟩
    · simp [Go.part, run_aggT hg, List.getElem?_eq_getElem hk']
    · simp only [part, Bool.false_eq_true, if_false, List.getD_eq_getElem?_getD, List.getElem?_eq_getElem hk]
      exact he _ _ _

theorem sound_field (h : SRel L n K st γ a w) (hd : dst.ok L n) {t : TypeId} {X : Operand} {x : AX} {f m : Nat} {g : Bool} {fields : Array Field} {fl : Field} (hop : o.op = .field t X f) (ht : P.underlying t = some (.struct fields))
    (hf : fields[f]? = some fl) (hg : aggT P fl.type = some g) (hs : sizeT P fl.type = some m) (h1 : g = true ∨ m = 1) (hx : stripX L X = some x)
    {d : Nat} {p : Prop} {δ : Delta} (hδ : astep st d (.field g m fl.offset x) = some (p, δ)) (hp : p) : Runs P L n K (δ.apply st dst) dst.toOpt o a w := by
  have rx := stripX_rel h hx
  simp only [astep] at hδ
  split at hδ <;> first | (simp only [Option.some.injEq, Prod.mk.injEq] at hδ; obtain ⟨rfl, rfl⟩ := hδ) | cases hδ
  rename_i cs e
  rw [e] at rx
  obtain ⟨vs, ev, hl, he⟩ := rx.agg_inv
  obtain ⟨v, hr, hv⟩ := part_rel (P := P) ⟨hl, he⟩ hg hs h1 hp
  refine Runs.pure h hd hv ?_
  rw [show execOp a.eval o = (do pure (Next.value (← Instr.field t (a.eval X) f))) from by simp only [execOp, hop]]
  refine exec_value ?_
  simp [Instr.field, run_underlying ht, hf, ev, asAgg, hr]

theorem sound_idxArr (h : SRel L n K st γ a w) (hd : dst.ok L n) {t e : TypeId} {X I : Operand} {x i : AX} {m s : Nat} {g : Bool} (hop : o.op = .index t X I) (ht : P.underlying t = some (.array m e))
    (hg : aggT P e = some g) (hs : sizeT P e = some s) (h1 : g = true ∨ s = 1) (hx : stripX L X = some x) (hi : stripX L I = some i)
    {d : Nat} {p : Prop} {δ : Delta} (hδ : astep st d (.idxArr m g s x i) = some (p, δ)) (hp : p) : Runs P L n K (δ.apply st dst) dst.toOpt o a w := by
  have rx := stripX_rel h hx
  have ri := stripX_rel h hi
  simp only [astep] at hδ
  split at hδ <;> first | (simp only [Option.some.injEq, Prod.mk.injEq] at hδ; obtain ⟨rfl, rfl⟩ := hδ) | cases hδ
  rename_i cs k q e1 e2
  rw [e1] at rx; rw [e2] at ri
  obtain ⟨vs, ev, hl, he⟩ := rx.agg_inv
  obtain ⟨p1, p2, p3⟩ := hp
  obtain ⟨v, hr, hv⟩ := part_rel (P := P) ⟨hl, he⟩ hg hs h1 p3
  refine Runs.pure h hd hv ?_
  rw [show execOp a.eval o = (do pure (Next.value (← Instr.index t (a.eval X) (a.eval I)))) from by simp only [execOp, hop]]
  refine exec_value ?_
  have q2 : 0 ≤ q ∧ q < (m : Int) := ⟨p1, p2⟩
  simp [Instr.index, run_underlying ht, ev, ri.int_inv, asIntOf, q2, run_sizeT hs, hr]

theorem sound_elS (h : SRel L n K st γ a w) (hd : dst.ok L n) {t e : TypeId} {X I : Operand} {x i : AX} {s : Nat} (hop : o.op = .indexAddr t X I) (ht : P.underlying t = some (.slice e))
    (hs : sizeT P e = some s) (hx : stripX L X = some x) (hi : stripX L I = some i)
    {d : Nat} {p : Prop} {δ : Delta} (hδ : astep st d (.elS s x i) = some (p, δ)) (hp : p) : Runs P L n K (δ.apply st dst) dst.toOpt o a w := by
  have rx := stripX_rel h hx
  have ri := stripX_rel h hi
  have hrun : ∀ (g off len cap : Nat) (k : IntKind) (m : Int), 0 ≤ m → m < len →
      (Instr.indexAt t (.slice (some ⟨g, off, none⟩) len cap) (.int k m)).run P w = .ok (.pointer (some ⟨g, off + m.toNat * s + 0, none⟩)) w := by
    intro g off len cap k m h1 h2
    have q2 : 0 ≤ m ∧ m < (len : Int) := ⟨h1, h2⟩
    simp [Instr.indexAt, run_underlying ht, asIntOf, q2, run_sizeT hs, addr_add]
  have hex : execOp a.eval o = (do pure (Next.value (← Instr.indexAt t (a.eval X) (a.eval I)))) := by simp only [execOp, hop]
  simp only [astep] at hδ
  split at hδ <;> first | (simp only [Option.some.injEq, Prod.mk.injEq] at hδ; obtain ⟨rfl, rfl⟩ := hδ) | cases hδ
  · rename_i σ sz xs k m e1 e2
    rw [e1] at rx; rw [e2] at ri
    obtain ⟨rfl, hal, p1, p2⟩ := hp
    rcases rx.slRead (sz := s) (xs := xs) (by cases σ <;> simp) hal with ⟨_, q⟩ | ⟨g, off, cap, c, e, fr, us, ev, _⟩
    · subst q; simp at p2; omega
    · rw [ev] at rx
      refine Runs.pure h hd (.elp _ _ _ s xs g off _ cap (by cases σ <;> simp) rx (by omega)) ?_
      rw [hex]
      exact exec_value (by rw [ev, ri.int_inv]; exact hrun g off _ cap k m p1 p2)
  · rename_i σ sz xs k m e1 e2
    rw [e1] at rx; rw [e2] at ri
    obtain ⟨rfl, hal, p1, p2⟩ := hp
    rcases rx.slRead (sz := s) (xs := xs) (by simp) hal with ⟨_, q⟩ | ⟨g, off, cap, c, e, fr, us, ev, _⟩
    · subst q; simp at p2; omega
    · rw [ev] at rx
      refine Runs.pure h hd (.elp _ _ _ s xs g off _ cap (by simp) rx (by omega)) ?_
      rw [hex]
      exact exec_value (by rw [ev, ri.int_inv]; exact hrun g off _ cap k m p1 p2)

theorem sound_elA (h : SRel L n K st γ a w) (hd : dst.ok L n) {t e : TypeId} {X I : Operand} {x i : AX} {s m : Nat} (hop : o.op = .indexAddr t X I) (ht : P.underlying t = some (.array m e))
    (hs : sizeT P e = some s) (hx : stripX L X = some x) (hi : stripX L I = some i)
    {d : Nat} {p : Prop} {δ : Delta} (hδ : astep st d (.elA m s x i) = some (p, δ)) (hp : p) : Runs P L n K (δ.apply st dst) dst.toOpt o a w := by
  have rx := stripX_rel h hx
  have ri := stripX_rel h hi
  have hex : execOp a.eval o = (do pure (Next.value (← Instr.indexAt t (a.eval X) (a.eval I)))) := by simp only [execOp, hop]
  simp only [astep] at hδ
  split at hδ <;> first | (simp only [Option.some.injEq, Prod.mk.injEq] at hδ; obtain ⟨rfl, rfl⟩ := hδ) | cases hδ
  rename_i b off k q e1 e2
  rw [e1] at rx; rw [e2] at ri
  obtain ⟨g, ev, hb⟩ := rx.ptr_inv
  have q2 : 0 ≤ q ∧ q < (m : Int) := hp
  refine Runs.pure h hd (.ptr hb) ?_
  rw [hex]
  refine exec_value ?_
  simp [Instr.indexAt, run_underlying ht, ev, ri.int_inv, asIntOf, Instr.sureAddr, q2, run_sizeT hs, addr_add]

theorem loadCells_rel {g off : Nat} {c : Array Value} {e : TypeId} {fr : Nat × Nat} (hg : w.heap[g]? = some (.cells c e fr)) {us : List Value} (hus : ∀ k, k < us.length → c[off + k]? = us[k]?) :
    (loadCells ⟨g, off, none⟩ us.length).run P w = .ok us.toArray w := by
  refine run_loadCells_list w _ us (fun j v hv => ?_)
  rw [addr_add]
  have hj : j < us.length := (List.getElem?_eq_some_iff.1 hv).1
  simp only [World.cell?, hg]
  simpa [hv] using hus j hj

theorem loadVar_rel {S : Stats} {t : TypeId} {b : Bool} {m : Nat} (hb : aggT P t = some b) (hm : sizeT P t = some m) (h1 : b = true ∨ m = 1) {g off : Nat} {c : Array Value} {e : TypeId} {fr : Nat × Nat}
    (hg : w.heap[g]? = some (.cells c e fr)) {cs : List V} {us : List Value} (hr : CellsRel S γ w cs us) (hus : ∀ k, k < us.length → c[off + k]? = us[k]?) (j : Nat) (hj : j + m ≤ cs.length) :
    ∃ v, (loadVar t ⟨g, off + j, none⟩).run P w = .ok v w ∧ VRel S γ w (part b m j cs) v := by
  obtain ⟨hl, he⟩ := hr
  cases b with
  | true =>
    have h2 := loadCells_rel (P := P) (off := off + j) hg (us := (us.drop j).take m) (fun k hk => by
      simp only [List.length_take, List.length_drop] at hk
      rw [Nat.add_assoc, hus _ (by omega), List.getElem?_take, if_pos (by omega), List.getElem?_drop])
    have h3 : ((us.drop j).take m).length = m := by simp; omega
    rw [h3] at h2
    refine ⟨.agg ((us.drop j).take m).toArray, by simp [loadVar, run_aggT hb, run_sizeT hm, h2], .agg _ _ (by simp [hl]) (fun k hk hk' => ?_)⟩
    simp only [List.getElem_take, List.getElem_drop]
    exact he _ _ _
  | false =>
    obtain rfl : m = 1 := by simpa using h1
    have hk : j < cs.length := by omega
    have hk' : j < us.length := by omega
    refine ⟨us[j], ?_, ?_⟩
    · have hc : w.cell? ⟨g, off + j, none⟩ = some us[j] := by
        simp only [World.cell?, hg]
        simpa [List.getElem?_eq_getElem hk'] using hus j hk'
      simp [loadVar, run_aggT hb, load, Sem.run, hc]
    · simp only [part, Bool.false_eq_true, if_false, List.getD_eq_getElem?_getD, List.getElem?_eq_getElem hk]
      exact he _ _ _

theorem sound_load (h : SRel L n K st γ a w) (hd : dst.ok L n) {t : TypeId} {X : Operand} {x : AX} {b : Bool} {m : Nat} (hop : o.op = .load t X) (hb : aggT P t = some b) (hm : sizeT P t = some m) (h1 : b = true ∨ m = 1)
    (hx : stripX L X = some x)
    {d : Nat} {p : Prop} {δ : Delta} (hδ : astep st d (.load b m x) = some (p, δ)) (hp : p) : Runs P L n K (δ.apply st dst) dst.toOpt o a w := by
  have rx := stripX_rel h hx
  have hex : execOp a.eval o = (do pure (Next.value (← Instr.loadAt t (a.eval X)))) := by simp only [execOp, hop]
  have hla : ∀ g off, (Instr.loadAt t (.pointer (some ⟨g, off, none⟩))).run P w = (loadVar t ⟨g, off, none⟩).run P w := by
    intro g off; simp [Instr.loadAt, Instr.sureAddr]
  simp only [astep] at hδ
  split at hδ <;> try (cases hδ; done)
  · rename_i bx off e1
    rw [e1] at rx
    split at hδ <;> first | (simp only [Option.some.injEq, Prod.mk.injEq] at hδ; obtain ⟨rfl, rfl⟩ := hδ) | cases hδ
    rename_i cs e2
    obtain ⟨g, ev, hbx⟩ := rx.ptr_inv
    obtain ⟨g', c, e, e3, e4, e5, e6, e7⟩ := h.h.box _ _ e2
    obtain rfl : g = g' := by rw [hbx] at e3; exact Option.some.inj e3
    obtain ⟨v, hr, hv⟩ := loadVar_rel (P := P) (S := st.stat) (γ := γ) hb hm h1 (off := 0) e5 (cs := cs) (us := c.toList) ⟨by simpa using e6, fun k hk hk' => by simpa using e7 k hk (by simpa using hk')⟩ (fun k hk => by simp) off hp
    refine Runs.pure h hd hv ?_
    rw [hex]
    refine exec_value ?_
    rw [ev, hla]
    simpa using hr
  · rename_i s i j e1
    rw [e1] at rx
    split at hδ <;> first | (simp only [Option.some.injEq, Prod.mk.injEq] at hδ; obtain ⟨rfl, rfl⟩ := hδ) | cases hδ
    rename_i xs e2
    obtain ⟨hal, hi, hj⟩ := hp
    obtain ⟨sz, xs', g, off, nn, cap, e3, e4, e5, ev⟩ := rx.elp_inv
    obtain rfl : xs' = xs := by
      rcases e3 with rfl | ⟨σ, rfl⟩ | ⟨σ, tt, rfl⟩ <;> simpa [V.elems] using e2
    rcases e4.slRead e3 hal with ⟨⟨_, q⟩, hx0⟩ | ⟨g', off', cap', c, e, fr, us, q, hg, hcap, hmax, hsz, hlen, hus, h1c, hel⟩
    · rw [hx0] at hi; simp at hi
    · cases q
      have hcl : (xs'.getD i .undef).cells.length = sz := by
        rw [List.getD_eq_getElem?_getD, List.getElem?_eq_getElem hi]; exact hsz _ (List.getElem_mem _)
      obtain ⟨a1, a2, a3, a4, a5⟩ := cutCont hsz hlen hus h1c hel i (i + 1) (by omega) (by omega)
      have hfl : flat ((xs'.take (i + 1)).drop i) = (xs'.getD i .undef).cells := by
        have h0 : (xs'.take (i + 1)).drop i = [xs'[i]] := by
          rw [List.drop_take, Nat.add_sub_cancel_left, List.drop_eq_getElem_cons hi]; rfl
        rw [h0, List.getD_eq_getElem?_getD, List.getElem?_eq_getElem hi]
        simp [flat]
      rw [hfl] at a2
      obtain ⟨v, hr, hv⟩ := loadVar_rel (P := P) (S := st.stat) (γ := γ) hb hm h1 (off := off + i * sz) hg (cs := (xs'.getD i .undef).cells) ⟨a2, fun k hk hk' => .base (by
        have := a5 k (by rw [hfl]; exact hk) hk'
        simpa only [hfl] using this)⟩ a3 j hj
      refine Runs.pure h hd hv ?_
      rw [hex]
      exact exec_value (by rw [ev, hla]; exact hr)

theorem foldl_set (off : Nat) : ∀ (vs : List Value) (i : Nat) (cells : Array Value),
    ((vs.zipIdx i).foldl (fun cs (x : Value × Nat) => cs.setIfInBounds (off + x.2) x.1) cells).size = cells.size ∧
    ∀ k, ((vs.zipIdx i).foldl (fun cs (x : Value × Nat) => cs.setIfInBounds (off + x.2) x.1) cells)[k]? = if off + i ≤ k ∧ k < off + i + vs.length ∧ k < cells.size then vs[k - (off + i)]? else cells[k]?
  | [], i, cells => by simp; intro k h1 h2; omega
  | v :: r, i, cells => by
    obtain ⟨h1, h2⟩ := foldl_set off r (i + 1) (cells.setIfInBounds (off + i) v)
    simp only [List.zipIdx_cons, List.foldl_cons]
    refine ⟨by rw [h1]; simp, fun k => ?_⟩
    rw [h2]
    simp only [Array.size_setIfInBounds, Array.getElem?_setIfInBounds, List.length_cons]
    by_cases e : off + i = k
    · subst e
      rw [if_neg (by omega), if_pos rfl]
      by_cases hk : off + i < cells.size
      · rw [if_pos hk, if_pos ⟨by omega, by omega, hk⟩]; simp
      · rw [if_neg hk, if_neg (by omega)]; simp; omega
    · rw [if_neg e]
      by_cases hk : off + (i + 1) ≤ k ∧ k < off + (i + 1) + r.length ∧ k < cells.size
      · rw [if_pos hk, if_pos ⟨by omega, by omega, by omega⟩, show k - (off + i) = (k - (off + (i + 1))) + 1 from by omega]; simp
      · rw [if_neg hk, if_neg (by omega)]

/-- One part laid into cells. -/
theorem fill_part {S : Stats} {cs : List V} {vs : Array Value} (h : CellsRel S γ w cs vs.toList) {x : V} {v : Value} (hx : x.okB = true) (hv : VRel S γ w x v) {off size : Nat} (hs : x.cells.length = size) (hb : off + size ≤ cs.length) :
    v.cells.size = size ∧ CellsRel S γ w (cs.take off ++ x.cells ++ cs.drop (off + size)) (v.cells.zipIdx.foldl (fun cs (c, j) => cs.setIfInBounds (off + j) c) vs).toList := by
  obtain ⟨c1, c2⟩ := hv.cells hx
  obtain ⟨hl, he⟩ := h
  have e : v.cells.zipIdx.foldl (fun cs (c, j) => cs.setIfInBounds (off + j) c) vs = (v.cells.toList.zipIdx 0).foldl (fun cs (x : Value × Nat) => cs.setIfInBounds (off + x.2) x.1) vs := by
    rw [← Array.foldl_toList, Array.toList_zipIdx]
  obtain ⟨f1, f2⟩ := foldl_set off v.cells.toList 0 vs
  rw [e]
  simp only [Array.length_toList] at hl f2
  refine ⟨by omega, by rw [Array.length_toList, f1]; simp; omega, fun k hk hk' => ?_⟩
  have hkv : k < vs.size := by rw [Array.length_toList, f1] at hk'; exact hk'
  have hget : ((v.cells.toList.zipIdx 0).foldl (fun cs (x : Value × Nat) => cs.setIfInBounds (off + x.2) x.1) vs).toList[k]? = some (((v.cells.toList.zipIdx 0).foldl (fun cs (x : Value × Nat) => cs.setIfInBounds (off + x.2) x.1) vs).toList[k]) := List.getElem?_eq_getElem hk'
  generalize (((v.cells.toList.zipIdx 0).foldl (fun cs (x : Value × Nat) => cs.setIfInBounds (off + x.2) x.1) vs).toList[k]) = u at hget
  rw [Array.getElem?_toList, f2] at hget
  simp only [Nat.add_zero] at hget
  by_cases hin : off ≤ k ∧ k < off + size
  · rw [if_pos ⟨hin.1, by omega, hkv⟩] at hget
    have hk2 : k - off < x.cells.length := by omega
    have hk3 : k - off < v.cells.size := by omega
    have : u = v.cells[k - off] := by rw [Array.getElem?_toList, Array.getElem?_eq_getElem hk3] at hget; exact (Option.some.inj hget).symm
    subst this
    have := c2 (k - off) hk2 hk3
    rw [List.getElem_append_left (by simp; omega), List.getElem_append_right (by simp; omega)]
    simp only [List.length_take]
    have e : k - min off cs.length = k - off := by omega
    simp only [e]
    exact this
  · rw [if_neg (by omega)] at hget
    have : u = vs[k] := by rw [Array.getElem?_eq_getElem hkv] at hget; exact (Option.some.inj hget).symm
    subst this
    have hkc : k < cs.length := by omega
    have hh := he k hkc (by simpa using hkv)
    by_cases hlo : k < off
    · rw [List.getElem_append_left (by simp; omega), List.getElem_append_left (by simp; omega)]
      simpa using hh
    · rw [List.getElem_append_right (by simp; omega)]
      simp only [List.getElem_drop, List.length_append, List.length_take]
      have e : off + size + (k - (min off cs.length + x.cells.length)) = k := by omega
      simp only [e]
      simpa using hh

theorem fill_rel (h : SRel L n K st γ a w) {place : Nat → Option (Nat × Nat)} : ∀ (parts : List (Nat × Operand)) (ps : List (Nat × Nat × AX)) (cs : List V) (vs : Array Value), stripParts P L place parts = some ps →
    CellsRel st.stat γ w cs vs.toList → partsOk cs.length (ps.map fun (o, s, x) => (o, s, st.val x)) →
    ∃ us, Instr.fill place vs (parts.map fun (i, x) => (i, a.eval x)) = some us ∧ CellsRel st.stat γ w (fillV cs (ps.map fun (o, s, x) => (o, s, st.val x))) us.toList
  | [], ps, cs, vs, hp, hc, hok => by
    simp [stripParts] at hp; subst hp
    exact ⟨vs, rfl, hc⟩
  | (i, x) :: r, ps, cs, vs, hp, hc, hok => by
    simp only [stripParts] at hp
    split at hp
    · rename_i off size y l e1 e2 e3
      obtain rfl := Option.some.inj hp
      obtain ⟨h1, h2, h3, h4⟩ := hok
      have rx := stripX_rel h e2
      obtain ⟨q1, q2⟩ := fill_part hc h1 rx h2 h3
      have hl : (cs.take off ++ (st.val y).cells ++ cs.drop (off + size)).length = cs.length := by simp; omega
      obtain ⟨us, q3, q4⟩ := fill_rel h r l _ _ e3 q2 (by rw [hl]; exact h4)
      refine ⟨us, ?_, q4⟩
      simp only [List.map_cons, Instr.fill, e1]
      have hcs := hc.1
      simp only [Array.length_toList] at hcs
      have hno : ¬ ((a.eval x).cells.size ≠ size ∨ off + (a.eval x).cells.size > vs.size) := by omega
      rw [if_neg (by simpa using hno)]
      exact q3
    · cases hp

theorem zeroT_some {t : TypeId} {z : List V} (h : zeroT P t = some z) : ∃ i zv, P.info? t = some i ∧ i.zero = some zv ∧ constCells zv.cells.toList = some z := by
  unfold zeroT at h
  split at h
  · rename_i i hi
    split at h
    · rename_i zv hz
      exact ⟨i, zv, hi, hz, h⟩
    · cases h
  · cases h

theorem sound_build (h : SRel L n K st γ a w) (hd : dst.ok L n) {t : TypeId} {parts : Array (Nat × Operand)} {op : AO} (hop : o.op = .build t parts) (hs : stripO P L (.build t parts) = some op)
    {d : Nat} {p : Prop} {δ : Delta} (hδ : astep st d op = some (p, δ)) (hp : p) : Runs P L n K (δ.apply st dst) dst.toOpt o a w := by
  have hex : execOp a.eval o = (do pure (Next.value (← Instr.build t (parts.map fun (i, x) => (i, a.eval x))))) := by simp only [execOp, hop]
  have hpl : (parts.map fun (i, x) => (i, a.eval x)).toList = parts.toList.map fun (i, x) => (i, a.eval x) := by simp
  simp only [stripO] at hs
  split at hs
  · rename_i fields z hu hz
    obtain ⟨it, zv, z1, z2, z3⟩ := zeroT_some hz
    obtain ⟨c1, c2⟩ := constCells_rel z3 st.stat γ w
    split at hs
    · rename_i places hpl2
      obtain ⟨ps, hps, rfl⟩ := Option.map_eq_some_iff.1 hs
      simp only [astep, Option.some.injEq, Prod.mk.injEq] at hδ
      obtain ⟨rfl, rfl⟩ := hδ
      obtain ⟨us, q1, q2, q3⟩ := fill_rel h _ _ z zv.cells hps ⟨c1, c2⟩ hp
      refine Runs.pure h hd (v := .agg us.toList.toArray) (.agg _ _ q2 q3) ?_
      rw [hex]
      refine exec_value (run_build w t _ _ ?_)
      rw [hpl]
      simp only [Program.built, z1, hu, z2, hpl2, Array.toArray_toList]
      exact q1
    · cases hs
  · rename_i m e z hu hz
    obtain ⟨it, zv, z1, z2, z3⟩ := zeroT_some hz
    obtain ⟨c1, c2⟩ := constCells_rel z3 st.stat γ w
    split at hs
    · rename_i s hs2
      obtain ⟨ps, hps, rfl⟩ := Option.map_eq_some_iff.1 hs
      simp only [astep, Option.some.injEq, Prod.mk.injEq] at hδ
      obtain ⟨rfl, rfl⟩ := hδ
      obtain ⟨us, q1, q2, q3⟩ := fill_rel h _ _ z zv.cells hps ⟨c1, c2⟩ hp
      refine Runs.pure h hd (v := .agg us.toList.toArray) (.agg _ _ q2 q3) ?_
      rw [hex]
      refine exec_value (run_build w t _ _ ?_)
      rw [hpl]
      unfold sizeT at hs2
      cases hie : P.info? e with
      | none => simp [hie] at hs2
      | some ie =>
        simp only [hie, Option.map_some, Option.some.injEq] at hs2
        subst hs2
        simp only [Program.built, z1, hu, z2, hie, Array.toArray_toList]
        exact q1
    · cases hs
  · cases hs

end ops
end

end Go.Proofs.YtnhhcfbigjpfeaaDoor
