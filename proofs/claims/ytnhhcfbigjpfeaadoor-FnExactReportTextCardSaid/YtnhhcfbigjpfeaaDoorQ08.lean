/-
  'make', and all operations together.
  A state that says less, with other names: at the head of a loop, where a function returns, and what a call is handed.
-/
import Derived.Test.YtnhhcfbigjpfeaaDoorQ07
import Derived.Laws.StructEq
import Derived.Laws.MakeOwn
namespace Go.Proofs.YtnhhcfbigjpfeaaDoor
set_option linter.all false

section

section ops
variable {P : Program} {L : Nat → Bool} {n : Nat} {K : Ctx} {st : St} {γ : Ghost} {a : Act} {w : World} {o : Oper} {dst : AD}

theorem flat_replicate_get {x : V} {sz : Nat} (hx : x.cells.length = sz) (h0 : 0 < sz) : ∀ (m k : Nat) (h : k < (flat (List.replicate m x)).length), (flat (List.replicate m x))[k] = x.cells[k % sz]'(by rw [hx]; exact Nat.mod_lt _ h0)
  | 0, k, h => by simp [flat] at h
  | m + 1, k, h => by
    simp only [List.replicate_succ, flat_cons] at h ⊢
    by_cases hk : k < sz
    · rw [List.getElem_append_left (by omega)]
      simp only [Nat.mod_eq_of_lt hk]
    · rw [List.getElem_append_right (by omega), flat_replicate_get hx h0 m]
      simp only [hx]
      congr 1
      exact (Nat.mod_eq_sub_mod (by omega)).symm

theorem sound_make (h : SRel L n K st γ a w) (hd : dst.ok L n) {t e : TypeId} {i : TypeInfo} {zv : Value} {z : V} {A B : Operand} {x y : AX} (hop : o.op = .makeSlice t A B) (ht : P.underlying t = some (.slice e)) (hi : P.info? e = some i)
    (hz : i.zero = some zv) (hzv : constV zv = some z) (h0 : 0 < i.size) (hb : 0 < i.bytes) (hok : z.okEl = true) (hst : z.stamps = []) (hzl : z.cells.length = i.size) (hx : stripX L A = some x) (hy : stripX L B = some y)
    {d : Nat} {p : Prop} {δ : Delta} (hδ : astep st d (.make i.size i.bytes z x y) = some (p, δ)) (hp : p) : Runs P L n K (δ.apply st dst) dst.toOpt o a w := by
  have rx := stripX_rel h hx
  have ry := stripX_rel h hy
  simp only [astep] at hδ
  split at hδ <;> first | (simp only [Option.some.injEq, Prod.mk.injEq] at hδ; obtain ⟨rfl, rfl⟩ := hδ) | cases hδ
  rename_i k1 m k2 c e1 e2
  rw [e1] at rx; rw [e2] at ry
  obtain ⟨p1, p2, p3, p4⟩ := hp
  obtain ⟨r1, r2, r3⟩ := roomOk_maxLen p3 hb
  obtain ⟨q1, q2, q3⟩ := (constV_rel hzv st.stat γ w).er hok (by rw [hst]; simp)
  have hzs : zv.cells.size = i.size := by rw [q1, V.er_cells]; simpa using hzl
  have hel : z.er.cells.length = i.size := by rw [V.er_cells]; simpa using hzl
  generalize hcells : madeCells zv.cells (c.toNat * i.size) = cells
  have hget : ∀ k, k < c.toNat * i.size → cells[k]? = some (zv.cells[k % i.size]'(by rw [hzs]; exact Nat.mod_lt _ h0)) := by
    intro k hk
    rw [← hcells]
    unfold madeCells
    have hlt : k % i.size < zv.cells.size := by rw [hzs]; exact Nat.mod_lt _ h0
    have hlt2 : k % zv.cells.size < zv.cells.size := by rw [hzs]; rw [hzs] at hlt; exact hlt
    rw [Array.getElem?_map, Array.getElem?_range]
    rw [if_pos hk]
    simp only [Option.map_some, Option.some.injEq]
    rw [getElem!_pos zv.cells _ hlt2]
    congr 1
    rw [hzs]
  have hcs : cells.size = c.toNat * i.size := by rw [← hcells, size_madeCells]
  have hmc : m.toNat * i.size ≤ c.toNat * i.size := Nat.mul_le_mul_right _ (by omega)
  have hfl : (flat (List.replicate m.toNat z.er)).length = m.toNat * i.size := by
    have := length_flat (xs := List.replicate m.toNat z.er) (sz := i.size) (fun x hx => by rw [List.eq_of_mem_replicate hx]; exact hel)
    simpa using this
  let us : List Value := (List.range (m.toNat * i.size)).map fun k => zv.cells[k % i.size]'(by rw [hzs]; exact Nat.mod_lt _ h0)
  obtain ⟨γ', h2⟩ := new_own h hd p4 (pushed_alloc w (.cells cells e)) (xs := List.replicate m.toNat z.er) (sz := i.size) (cap := c.toNat) (us := us)
    (by simp; omega) r1 (fun x hx => by rw [List.eq_of_mem_replicate hx]; exact hel) (by rw [hfl]; simp [us])
    (fun k hk => by
      have hk' : k < m.toNat * i.size := by simpa [us] using hk
      rw [hget k (by omega)]
      simp [us, hk'])
    (fun u hu => by
      obtain ⟨k, hk, rfl⟩ := List.mem_map.1 hu
      exact q3 _ (Array.getElem_mem _))
    (fun k hk hk' => by
      rw [flat_replicate_get hel h0]
      simp only [us, List.getElem_map, List.getElem_range]
      exact q2 _ _ _) hcs (cl := .n)
  have hrun : (Instr.makeSlice t (a.eval A) (a.eval B)).run P w = .ok (.slice (some ⟨w.heap.size, 0, none⟩) m.toNat c.toNat) (w.alloc (.cells cells e)) := by
    have hbc : (i.bytes : Int) * c ≤ 281474976710656 := by
      have : ((c.toNat * i.bytes : Nat) : Int) ≤ 281474976710656 := by omega
      rw [Int.natCast_mul, Int.toNat_of_nonneg (by omega), Int.mul_comm] at this
      exact this
    rw [rx.int_inv, ry.int_inv, ← hcells]
    exact run_make w t e i zv ht hi hz k1 k2 m c p1 p2 hbc (by omega)
  refine ⟨_, _, γ',   .inl (?_ : _ = Result.ok (Next.value (Value.slice (some ⟨w.heap.size, 0, none⟩) m.toNat c.toNat)) (w.alloc (Obj.cells cells e))), by simp only [List.length_replicate] at h2; exact h2⟩
  rw [show execOp a.eval o = (do pure (Next.value (← Instr.makeSlice t (a.eval A) (a.eval B)))) from by simp only [execOp, hop]]
  exact exec_value hrun

theorem flatF_run {S : Stats} {as bs : List V} {us vs : List Value} (ha : CellsRel S γ w as us) (hb : CellsRel S γ w bs vs) {e : Nat} : ∀ {fs : List Field} {i : Nat} {ks : List Nat}, flatF P i fs = some ks → as.length = i + fs.length → bs.length = i + fs.length →
    eqK ks (as.drop i) (bs.drop i) → (Op.eqFields (e + 1) us.toArray vs.toArray fs).run P w = .ok (eqC (as.drop i) (bs.drop i)) w
  | [], i, ks, h, h1, h2, hk => by
    rw [List.drop_of_length_le (by simp at h1; omega), List.drop_of_length_le (by simp at h2; omega)]
    rfl
  | f :: r, i, ks, h, h1, h2, hk => by
    simp only [flatF] at h
    split at h <;> try (cases h; done)
    rename_i l u e1 e2 e3 e4
    split at h <;> try (cases h; done)
    rename_i q
    simp only [List.length_cons] at h1 h2
    have ia : i < as.length := by omega
    have ib : i < bs.length := by omega
    rw [List.drop_eq_getElem_cons ia, List.drop_eq_getElem_cons ib] at hk ⊢
    have ih := flatF_run ha hb (e := e) e1 (by omega) (by omega)
    obtain ⟨pu, ru, vu⟩ := part_rel (P := P) ha (t := f.type) (off := i) e2 e3 (.inr rfl) (by omega)
    obtain ⟨pv, rv, vv⟩ := part_rel (P := P) hb (t := f.type) (off := i) e2 e3 (.inr rfl) (by omega)
    have gu : part false 1 i as = as[i] := by simp [part, List.getD_eq_getElem?_getD, ia]
    have gv : part false 1 i bs = bs[i] := by simp [part, List.getD_eq_getElem?_getD, ib]
    rw [gu] at vu
    rw [gv] at vv
    have key : ∀ {c : Bool} {tl : Bool}, (Op.equalIn (e + 1) f.type pu pv).run P w = .ok c w → (c = true → (Op.eqFields (e + 1) us.toArray vs.toArray r).run P w = .ok tl w) →
        (Op.eqFields (e + 1) us.toArray vs.toArray (f :: r)).run P w = .ok (c && tl) w := fun {c tl} h3 h4 => by
      simp only [Op.eqFields, q.1, ne_eq, not_false_eq_true, if_true, Sem.run_bind, q.2, ru, rv, Result.andThen, h3]
      cases c with
      | false => simp
      | true => simpa using h4 rfl
    generalize as[i] = x at vu hk ⊢
    generalize bs[i] = y at vv hk ⊢
    have hk0 : ∃ k, ks = k :: l ∧ ((k = 0 ∧ ∃ k0, u = .int k0) ∨ (k = 1 ∧ u = .bool) ∨ (k = 2 ∧ u = .string)) := by
      cases u <;> first | (cases h; done) | (obtain rfl := Option.some.inj h; simp)
    obtain ⟨k, rfl, hu⟩ := hk0
    simp only [eqK] at hk
    obtain ⟨hk1, hk2⟩ := hk
    simp only [eqC]
    refine key (c := eqC1 x y) ?_ (fun _ => ih hk2)
    cases x <;> cases y <;> simp only [eqK1] at hk1 <;> first | exact hk1.elim | skip
    · subst hk1
      obtain rfl := vu.bool_inv
      obtain rfl := vv.bool_inv
      rcases hu with ⟨q, _⟩ | ⟨_, rfl⟩ | ⟨q, _⟩ <;> first | cases q | skip
      exact run_equalIn_bool' w e f.type _ _ e4
    · obtain ⟨rfl, rfl⟩ := hk1
      obtain rfl := vu.int_inv
      obtain rfl := vv.int_inv
      rcases hu with ⟨_, k0, rfl⟩ | ⟨q, _⟩ | ⟨q, _⟩ <;> first | cases q | skip
      rw [run_equalIn_int w e f.type _ k0 _ _ e4]; rfl
    · subst hk1
      obtain ⟨s, rfl, rfl⟩ := vu.str_inv
      obtain ⟨t, rfl, rfl⟩ := vv.str_inv
      rcases hu with ⟨q, _⟩ | ⟨q, _⟩ | ⟨_, rfl⟩ <;> first | cases q | skip
      rw [run_equalIn_string w e f.type s t e4, ByteArray.toList_eq, ByteArray.toList_eq]
      congr 1
      rw [Bool.eq_iff_iff]; simp [eqC1]

theorem eqK_len : ∀ {ks : List Nat} {a b : List V}, eqK ks a b → a.length = ks.length ∧ b.length = ks.length
  | [], [], [], _ => ⟨rfl, rfl⟩
  | k :: r, x :: a, y :: b, h => by have := eqK_len h.2; simp [this]
  | [], _ :: _, _, h => h.elim
  | [], [], _ :: _, h => h.elim
  | n :: r, [], _, h => h.elim
  | n :: r, x :: a, [], h => h.elim

theorem flatF_len : ∀ {fs : List Field} {i : Nat} {ks : List Nat}, flatF P i fs = some ks → fs.length = ks.length
  | [], i, ks, h => by simp [flatF] at h; subst h; rfl
  | f :: r, i, ks, h => by
    simp only [flatF] at h
    split at h <;> try (cases h; done)
    rename_i l u e1 e2 e3 e4
    split at h <;> try (cases h; done)
    have := flatF_len e1
    split at h <;> first | (obtain rfl := Option.some.inj h; simp [this]) | cases h

theorem sound_eqs (h : SRel L n K st γ a w) (hd : dst.ok L n) {op : BinOp} {neg : Bool} (hneg : op = if neg then .neq else .eql) {t t' : TypeId} {X Y : Operand} {x y : AX} {fs : Array Field} {ks : List Nat} (hop : o.op = .binOp op t X Y t')
    (ht : P.underlying t = some (.struct fs)) (hk : flatF P 0 fs.toList = some ks) (hg : P.eqGuardType P.depth t = false) (hh : P.stoodInHeld t = false) (hx : stripX L X = some x) (hy : stripX L Y = some y)
    {d : Nat} {p : Prop} {δ : Delta} (hδ : astep st d (.eqs neg ks x y) = some (p, δ)) (hp : p) : Runs P L n K (δ.apply st dst) dst.toOpt o a w := by
  have rx := stripX_rel h hx
  have ry := stripX_rel h hy
  simp only [astep] at hδ
  split at hδ <;> try (cases hδ; done)
  rename_i as bs e1 e2
  simp only [Option.some.injEq, Prod.mk.injEq] at hδ
  obtain ⟨rfl, rfl⟩ := hδ
  rw [e1] at rx
  rw [e2] at ry
  obtain ⟨us, hu, hul, hue⟩ := rx.agg_inv
  obtain ⟨vs, hv, hvl, hve⟩ := ry.agg_inv
  have hfo : P.fieldsOf t = fs := by simp [Program.fieldsOf, ht]
  obtain ⟨l1, l2⟩ := eqK_len hp
  have l3 := flatF_len hk
  have hrun : (Op.equalIn 10000 t (.agg us.toArray) (.agg vs.toArray)).run P w = .ok (eqC as bs) w := by
    rw [run_equalIn_struct w 9999 t us.toArray vs.toArray (by rw [hfo]; exact ht) hh, hfo]
    have := flatF_run (P := P) (S := st.stat) (γ := γ) (w := w) (as := as) (bs := bs) ⟨hul, hue⟩ ⟨hvl, hve⟩ (e := 9998) hk (by omega) (by omega) (by simpa using hp)
    simpa using this
  refine Runs.pure h hd (.base (.bool _)) ?_
  cases neg with
  | false =>
    obtain rfl : op = .eql := hneg
    simp [execOp, hop, hu, hv, run_eqGuard_agg w _ t X Y us.toArray vs.toArray hg, run_eql_struct, hrun, Result.andThen]
  | true =>
    obtain rfl : op = .neq := hneg
    simp [execOp, hop, hu, hv, run_eqGuard_agg w _ t X Y us.toArray vs.toArray hg, run_neq_struct, hrun, Result.andThen]

/-- Every operation but a call of a function: what the abstract machine does, the model does. -/
theorem sound_op (h : SRel L n K st γ a w) (hd : dst.ok L n) {op : AO} (hs : stripO P L o.op = some op) {d : Nat} {p : Prop} {δ : Delta} (hδ : astep st d op = some (p, δ)) (hp : p) :
    Runs P L n K (δ.apply st dst) dst.toOpt o a w := by
  have hs0 := hs
  unfold stripO at hs
  split at hs
  case h_1 x hop =>
    obtain ⟨y, hy, rfl⟩ := Option.map_eq_some_iff.1 hs
    exact sound_mv h hd (.inl hop) hy hδ hp
  case h_2 x hop =>
    obtain ⟨y, hy, rfl⟩ := Option.map_eq_some_iff.1 hs
    exact sound_mv h hd (.inr hop) hy hδ hp
  case h_3 c x y hop =>
    split at hs <;> first | (obtain rfl := Option.some.inj hs) | cases hs
    exact sound_pick h hd hop ‹_› ‹_› ‹_› hδ hp
  case h_4 t hop =>
    split at hs <;> first | (obtain rfl := Option.some.inj hs) | cases hs
    · exact sound_allocN h hd hop ‹_› hδ hp
    · exact sound_alloc h hd hop ‹_› hδ hp
  case h_5 t x hop =>
    obtain ⟨y, hy, rfl⟩ := Option.map_eq_some_iff.1 hs
    exact sound_box h hd hop hy hδ hp
  case h_6 t parts hop =>
    exact sound_build h hd hop (by rw [hop] at hs0; exact hs0) hδ hp
  case h_7 t m parts hop =>
    split at hs <;> try (cases hs; done)
    split at hs <;> try (cases hs; done)
    split at hs <;> first | (obtain rfl := Option.some.inj hs) | cases hs
    rename_i q
    exact sound_lits h hd hop ‹_› ‹_› ‹_› ‹_› q.1 q.2 hδ hp
  case h_8 t x hop =>
    split at hs <;> try (cases hs; done)
    split at hs <;> first | (obtain rfl := Option.some.inj hs) | cases hs
    exact sound_load h hd hop ‹_› ‹_› ‹_› ‹_› hδ hp
  case h_9 t x y hop =>
    split at hs <;> first | (obtain rfl := Option.some.inj hs) | cases hs
    exact sound_store h hd hop ‹_› ‹_› ‹_› hδ hp
  case h_10 x hop =>
    obtain ⟨y, hy, rfl⟩ := Option.map_eq_some_iff.1 hs
    exact sound_nilc h hd hop hy hδ hp
  case h_11 bop t x y t' hop =>
    split at hs
    · split at hs <;> first | (obtain rfl := Option.some.inj hs) | cases hs
      · exact sound_beq (neg := false) h hd hop ‹_› ‹_› ‹_› hδ hp
      · exact sound_beq (neg := true) h hd hop ‹_› ‹_› ‹_› hδ hp
    · split at hs <;> try (cases hs; done)
      · split at hs <;> first | (obtain rfl := Option.some.inj hs) | cases hs
        rename_i q
        exact sound_eqs (neg := false) h hd rfl hop ‹_› ‹_› q.1 q.2 ‹_› ‹_› hδ hp
      · split at hs <;> first | (obtain rfl := Option.some.inj hs) | cases hs
        rename_i q
        exact sound_eqs (neg := true) h hd rfl hop ‹_› ‹_› q.1 q.2 ‹_› ‹_› hδ hp
    · obtain rfl := Option.some.inj hs
      exact sound_bin h hd hop ‹_› ‹_› hδ hp
    · cases hs
  case h_12 uop t x hop =>
    obtain ⟨y, hy, rfl⟩ := Option.map_eq_some_iff.1 hs
    exact sound_un h hd hop hy hδ hp
  case h_13 src t x hop =>
    split at hs
    · obtain rfl := Option.some.inj hs
      exact sound_conv h hd hop ‹_› ‹_› ‹_› hδ hp
    · split at hs <;> first | (obtain rfl := Option.some.inj hs) | cases hs
      exact sound_toStr h hd hop ‹_› ‹_› ‹_› ‹_› hδ hp
    · cases hs
  case h_14 f first cap hop =>
    split at hs <;> try (cases hs; done)
    obtain ⟨y, hy, rfl⟩ := Option.map_eq_some_iff.1 hs
    exact sound_mkfn h hd hop ‹_› hy hδ hp
  case h_15 t l c hop =>
    split at hs <;> try (cases hs; done)
    split at hs <;> try (cases hs; done)
    split at hs <;> first | (obtain rfl := Option.some.inj hs) | cases hs
    rename_i i z zs x y hi hzv hzt hx hy q
    obtain ⟨q1, q2, q3, q4, q5, q6⟩ := q
    have hz : ∃ zv, i.zero = some zv ∧ constV zv = some z := by
      unfold zeroV at hzv
      rw [hi] at hzv
      simp only at hzv
      split at hzv
      · exact ⟨_, ‹_›, hzv⟩
      · cases hzv
    obtain ⟨zv, hz1, hz2⟩ := hz
    exact sound_make h hd hop ‹_› hi hz1 hz2 q2 q3 q4 q5 q6 hx hy hδ hp
  case h_16 t x lo hi hop =>
    split at hs
    · obtain rfl := Option.some.inj hs
      exact sound_cutStr h hd hop ‹_› ‹_› ‹_› ‹_› hδ hp
    · split at hs <;> first | (obtain rfl := Option.some.inj hs) | cases hs
      exact sound_cutSl h hd hop ‹_› ‹_› ‹_› ‹_› ‹_› hδ hp
    · cases hs
  case h_17 t x f hop =>
    split at hs <;> try (cases hs; done)
    split at hs <;> try (cases hs; done)
    split at hs <;> try (cases hs; done)
    split at hs <;> first | (obtain rfl := Option.some.inj hs) | cases hs
    exact sound_faddr h hd hop ‹_› ‹_› ‹_› ‹_› ‹_› hδ hp
  case h_18 t x f hop =>
    split at hs <;> try (cases hs; done)
    split at hs <;> try (cases hs; done)
    split at hs <;> try (cases hs; done)
    split at hs <;> first | (obtain rfl := Option.some.inj hs) | cases hs
    exact sound_field h hd hop ‹_› ‹_› ‹_› ‹_› ‹_› ‹_› hδ hp
  case h_19 t x i hop =>
    split at hs <;> try (cases hs; done)
    · obtain ⟨y, hy, rfl⟩ := Option.map_eq_some_iff.1 hs
      exact sound_elS h hd hop ‹_› hy ‹_› ‹_› hδ hp
    · obtain ⟨y, hy, rfl⟩ := Option.map_eq_some_iff.1 hs
      exact sound_elA h hd hop ‹_› hy ‹_› ‹_› hδ hp
  case h_20 t x i hop =>
    split at hs
    · obtain rfl := Option.some.inj hs
      exact sound_idxStr h hd hop ‹_› ‹_› ‹_› hδ hp
    · split at hs <;> try (cases hs; done)
      split at hs <;> first | (obtain rfl := Option.some.inj hs) | cases hs
      exact sound_idxArr h hd hop ‹_› ‹_› ‹_› ‹_› ‹_› ‹_› hδ hp
    · cases hs
  case h_21 x i hop =>
    obtain ⟨y, hy, rfl⟩ := Option.map_eq_some_iff.1 hs
    exact sound_extract h hd hop hy hδ hp
  case h_22 b args ts hop =>
    split at hs <;> try (cases hs; done)
    rename_i l hl
    unfold stripBuiltin at hs
    split at hs
    · obtain ⟨x, r, e1, e2, e3⟩ := stripXs_cons hl
      obtain rfl := stripXs_nil e3
      split at hs <;> first | (obtain rfl := Option.some.inj hs) | cases hs
      · exact sound_lenStr h hd hop rfl e1 ‹_› ‹_› e2 hδ hp
      · exact sound_len h hd hop rfl e1 ‹_› ‹_› e2 hδ hp
      · exact sound_lenArr h hd hop rfl e1 ‹_› ‹_› hδ hp
    · obtain ⟨x, r, e1, e2, e3⟩ := stripXs_cons hl
      obtain ⟨x2, r2, e4, e5, e6⟩ := stripXs_cons e3
      obtain rfl := stripXs_nil e6
      subst e4
      obtain rfl := Option.some.inj hs
      exact sound_min h hd hop rfl e1 e2 e5 hδ hp
    · obtain ⟨x, r, e1, e2, e3⟩ := stripXs_cons hl
      obtain ⟨x2, r2, e4, e5, e6⟩ := stripXs_cons e3
      obtain rfl := stripXs_nil e6
      subst e4
      obtain rfl := Option.some.inj hs
      exact sound_max h hd hop rfl e1 e2 e5 hδ hp
    · obtain ⟨x, r, e1, e2, e3⟩ := stripXs_cons hl
      obtain ⟨x2, r2, e4, e5, e6⟩ := stripXs_cons e3
      obtain rfl := stripXs_nil e6
      subst e4
      split at hs <;> try (cases hs; done)
      · rename_i el el2 hu1 hu2
        split at hs <;> try (cases hs; done)
        split at hs <;> try (cases hs; done)
        split at hs <;> first | (obtain rfl := Option.some.inj hs) | cases hs
        rename_i q
        obtain ⟨rfl, q2, q3⟩ := q
        clear hu2
        have hδ0 := hδ
        simp only [astep] at hδ
        split at hδ <;> try (cases hδ; done)
        split at hδ <;> try (cases hδ; done)
        · rename_i ys hys hX
          simp only [Option.some.injEq, Prod.mk.injEq] at hδ
          obtain ⟨rfl, rfl⟩ := hδ
          obtain ⟨p1, p2, p3, p4⟩ := hp
          have := stripX_rel h e2
          rw [hX] at this
          exact sound_append_nil h hd hop rfl e1 ‹_› ‹_› ‹_› ‹_› q2 q3 e5 this.nils_inv ‹_› p1 p2 p3 p4
        · rename_i ys hys σ sz' xs hX
          split at hδ <;> try (cases hδ; done)
          rename_i top sz'' hS
          simp only [Option.some.injEq, Prod.mk.injEq] at hδ
          obtain ⟨rfl, rfl⟩ := hδ
          obtain ⟨rfl, rfl, p2, p3, p4, p5⟩ := hp
          exact sound_append_own h hd hop rfl e1 ‹_› ‹_› ‹_› ‹_› q2 q3 e2 e5 hX hS p5 ‹_› p2 p3 p4
        · rename_i ys hys σ tt sz' xs hX
          split at hδ <;> try (cases hδ; done)
          rename_i top sz'' hS
          simp only [Option.some.injEq, Prod.mk.injEq] at hδ
          obtain ⟨rfl, rfl⟩ := hδ
          obtain ⟨rfl, rfl, rfl, p2, p3, p4, p5⟩ := hp
          exact sound_append_pf h hd hop rfl e1 ‹_› ‹_› ‹_› ‹_› q2 q3 e2 e5 hX hS p5 ‹_› p2 p3 p4
      · split at hs <;> try (cases hs; done)
        split at hs <;> try (cases hs; done)
        split at hs <;> first | (obtain rfl := Option.some.inj hs) | cases hs
        rename_i q
        obtain ⟨q1, q2, q3⟩ := q
        exact sound_appStr h hd hop rfl e1 ‹_› ‹_› ‹_› ‹_› ‹_› q1 q2 q3 e2 e5 hδ hp
    · cases hs
  case h_23 f args ts hop =>
    split at hs <;> first | (obtain rfl := Option.some.inj hs) | cases hs
    · simp [astep] at hδ
    · simp [astep] at hδ
  case h_24 => cases hs

end ops
end

section

/-- Which stamps are kept, under which names: the new name, the old one (none: a nil slice), how long, how wide. -/
abbrev Mp := List (Nat × Option Nat × Nat × Nat)

def lookM (M : Mp) (k : Nat) : Option (Option Nat × Nat × Nat) :=
  match M with
  | [] => none
  | (j, x) :: r => if k = j then some x else lookM r k

/-- The new name of an old stamp. -/
def newM (M : Mp) (σ : Nat) : Option Nat :=
  match M with
  | [] => none
  | (j, o, _, _) :: r => if o = some σ then some j else newM r σ

def statM : Mp → Stats
  | [] => []
  | (k, _, t, s) :: r => (k, some (.own t s)) :: statM r

/-- New names differ, old names differ, and each stamp is as long and as wide as it is said. -/
def okM (S : Stats) : Mp → Prop
  | [] => True
  | (k, some σ, t, s) :: r => lookM r k = none ∧ newM r σ = none ∧ (match lookS S σ with
    | some (.own t0 s0) => s0 = s ∧ t ≤ t0
    | _ => False) ∧ okM S r
  | (k, none, t, _) :: r => lookM r k = none ∧ t = 0 ∧ okM S r

/-- Which variables are kept: the new number, the old one. -/
abbrev Bm := List (Nat × Nat)

def lookN (B : Bm) (b : Nat) : Option Nat :=
  match B with
  | [] => none
  | (n, o) :: r => if b = n then some o else lookN r b

def oldN (B : Bm) (b : Nat) : Option Nat :=
  match B with
  | [] => none
  | (n, o) :: r => if b = o then some n else oldN r b

def okN : Bm → Prop
  | [] => True
  | (n, o) :: r => lookN r n = none ∧ oldN r o = none ∧ okN r

theorem lookN_old : ∀ {B : Bm}, okN B → ∀ {n o : Nat}, lookN B n = some o → oldN B o = some n
  | [], _, n, o, h => by simp [lookN] at h
  | (n', o') :: r, ⟨h1, h2, h3⟩, n, o, h => by
    simp only [lookN] at h
    by_cases e : n = n'
    · rw [if_pos e] at h; cases h; simp [oldN, e]
    · rw [if_neg e] at h
      have q := lookN_old h3 h
      have : o ≠ o' := by rintro rfl; rw [h2] at q; cases q
      simp [oldN, this, q]

theorem oldN_look : ∀ {B : Bm}, okN B → ∀ {n o : Nat}, oldN B o = some n → lookN B n = some o
  | [], _, n, o, h => by simp [oldN] at h
  | (n', o') :: r, ⟨h1, h2, h3⟩, n, o, h => by
    simp only [oldN] at h
    by_cases e : o = o'
    · rw [if_pos e] at h; cases h; simp [lookN, e]
    · rw [if_neg e] at h
      have q := oldN_look h3 h
      have : n ≠ n' := by rintro rfl; rw [h1] at q; cases q
      simp [lookN, this, q]

/-- A stamp that may be read by who is handed it: unchangeable, or lent. -/
def lent (S : Stats) (E : Option (List Nat)) (σ : Nat) : Prop :=
  match lookS S σ with
  | some .imm => True
  | some (.own _ _) => match E with
    | none => True
    | some l => σ ∈ l
  | _ => False

/-- A stamp that is kept in its whole length. -/
def fullM (M : Mp) (S : Stats) (k σ : Nat) : Prop :=
  match lookM M k with
  | some (_, t, _) => (match lookS S σ with
    | some (.own t0 _) => t = t0
    | _ => False)
  | none => False

/-- A head that is kept as if there were nothing behind it. -/
def cutM (M : Mp) (S : Stats) (k σ tt n : Nat) : Prop :=
  match lookM M k with
  | some (_, t, _) => t = n ∧ (match lookS S σ with
    | some (.own t0 _) => tt = t0
    | _ => False)
  | none => False

def relPs (B : Bm) : List V → List V → Prop
  | [], [] => True
  | .ptr b o :: r, .ptr b' o' :: s => o = o' ∧ lookN B b' = some b ∧ relPs B r s
  | _, _ => False

def relC (M : Mp) (S : Stats) (E : Option (List Nat)) (B : Bm) : V → V → Prop
  | _, .undef => True
  | .sl (some σ) sz xs, .sl (some k) sz' ys => sz = sz' ∧ xs = ys ∧ newM M σ = some k ∧ fullM M S k σ
  | .vw σ (some tt) sz xs, .sl (some k) sz' ys => sz = sz' ∧ xs = ys ∧ newM M σ = some k ∧ cutM M S k σ tt xs.length
  | .nils, .sl (some k) sz ys => ys = [] ∧ lookM M k = some (none, 0, sz)
  | .sl (some σ) sz xs, .sl none sz' ys => sz = sz' ∧ xs = ys ∧ lent S E σ ∧ newM M σ = none
  | .vw σ _ sz xs, .sl none sz' ys => sz = sz' ∧ xs = ys ∧ lent S E σ ∧ newM M σ = none
  | .sl none sz xs, .sl none sz' ys => sz = sz' ∧ xs = ys
  | .nils, .sl none _ ys => ys = []
  | .nils, .nils => True
  | .bool a, .bool b => a = b
  | .int k n, .int k' m => k = k' ∧ n = m
  | .str a, .str b => a = b
  | .nilp, .nilp => True
  | .nilb b t, .nilb b' t' => t = t' ∧ lookN B b' = some b
  | .bb e σ l, .bb e' k l' => e = e' ∧ l = l' ∧ newM M σ = some k ∧ fullM M S k σ
  | .ptr b o, .ptr b' o' => o = o' ∧ lookN B b' = some b
  | .fn f cs, .fn g ds => f = g ∧ relPs B cs ds
  | _, _ => False

def relCs (M : Mp) (S : Stats) (E : Option (List Nat)) (B : Bm) : List V → List V → Prop
  | [], [] => True
  | x :: r, y :: s => relC M S E B x y ∧ relCs M S E B r s
  | _, _ => False

def relA (M : Mp) (S : Stats) (E : Option (List Nat)) (B : Bm) : V → V → Prop
  | .agg cs, .agg ds => relCs M S E B cs ds
  | x, y => relC M S E B x y

def relAs (M : Mp) (S : Stats) (E : Option (List Nat)) (B : Bm) : List V → List V → Prop
  | [], [] => True
  | x :: r, y :: s => relA M S E B x y ∧ relAs M S E B r s
  | _, _ => False

/-- A value, and the value that is said of it afterwards. -/
def relV (M : Mp) (S : Stats) (E : Option (List Nat)) (B : Bm) : V → V → Prop
  | .tup cs, .tup ds => relAs M S E B cs ds
  | x, y => relA M S E B x y

theorem Evo.stat {S S' : Stats} (h : ∀ k, lookS S k = lookS S' k) (γ : Ghost) (w : World) : Evo S γ w S' γ w :=
  ⟨fun g o h1 h2 => ⟨h1, h2⟩, fun d g h => h, fun g t h => h, fun σ q => by rw [← h]; exact q, fun σ q => .inl (by rw [← h]; exact q),
    fun σ top sz q => .inr (.inr ⟨top, by rw [← h]; exact q, Nat.le_refl _, fun g c e fr h1 h2 => .inl ⟨h1, c, h2, rfl, fun k _ => rfl⟩⟩)⟩

theorem HInv.stat {K : Ctx} {Bo : List (Nat × List V)} {S S' : Stats} {γ : Ghost} {w : World} (hs : ∀ k, lookS S k = lookS S' k) (h : HInv K Bo S γ w) : HInv K Bo S' γ w :=
  ⟨fun d cs hl => by
    obtain ⟨g, c, e, h1, h2, h3, h4, h5⟩ := h.box d cs hl
    exact ⟨g, c, e, h1, h2, h3, h4, fun k q1 q2 => (h5 k q1 q2).evo (.stat hs γ w)⟩, h.bxd, fun σ top sz q => h.sp σ top sz (by rw [hs]; exact q), h.ow, h.av, h.frame⟩

section
variable {S : Stats} {M : Mp} {K : Ctx} {γ γ' : Ghost} {w : World} {E : Option (List Nat)} {B : Bm}

/-- The ghost of a state that says less. -/
structure Less (S : Stats) (M : Mp) (E : Option (List Nat)) (B : Bm) (γ γ' : Ghost) : Prop where
  o : ∀ g, γ'.O g → γ.O g
  gone : ∀ σ top sz g, lookS S σ = some (.own top sz) → lent S E σ → newM M σ = none → γ.sp σ = some g → ¬ γ'.O g
  sp : ∀ k σ t s, lookM M k = some (some σ, t, s) → γ'.sp k = γ.sp σ
  bx : ∀ n o g, lookN B n = some o → γ.bx o = some g → γ'.bx n = some g

/-- The ghost behind a weakening. -/
def weakG (M : Mp) (B : Bm) (γ : Ghost) : Ghost :=
  { bx := fun d => (lookN B d).bind γ.bx
    sp := fun k => match lookM M k with | some (some σ, _, _) => γ.sp σ | _ => none
    ow := fun g => match γ.ow g with
      | some (true, d) => match oldN B d with | some n => if γ.bx d = some g then some (true, n) else none | none => none
      | some (false, σ) => match newM M σ with | some k => some (false, k) | none => none
      | none => none
    av := γ.av }

theorem weakG_O {g : Nat} (h : (weakG M B γ).O g) : γ.O g := by
  rcases h with h | h
  · refine .inl fun e => h ?_
    simp [weakG, e]
  · exact .inr h

theorem okM_new : ∀ {M : Mp} {σ k : Nat}, okM S M → newM M σ = some k → ∃ t s t0, lookM M k = some (some σ, t, s) ∧ lookS S σ = some (.own t0 s) ∧ t ≤ t0
  | [], σ, k, _, h => by simp [newM] at h
  | (j, some τ, t, s) :: r, σ, k, h, hn => by
    obtain ⟨h1, h2, h3, h4⟩ := h
    simp only [newM] at hn
    by_cases e : τ = σ
    · subst e
      simp at hn
      subst hn
      split at h3
      · rename_i t0 s0 e3
        obtain ⟨rfl, h3⟩ := h3
        exact ⟨t, s0, t0, by simp [lookM], e3, h3⟩
      · exact h3.elim
    · have e2 : ¬ (some τ = some σ) := by simpa using e
      rw [if_neg e2] at hn
      obtain ⟨t', s', t0, q1, q2, q3⟩ := okM_new h4 hn
      have : k ≠ j := by rintro rfl; rw [h1] at q1; cases q1
      exact ⟨t', s', t0, by simp [lookM, this, q1], q2, q3⟩
  | (j, none, t, s) :: r, σ, k, h, hn => by
    obtain ⟨h1, h2, h4⟩ := h
    simp only [newM] at hn
    rw [if_neg (by simp)] at hn
    obtain ⟨t', s', t0, q1, q2, q3⟩ := okM_new h4 hn
    have : k ≠ j := by rintro rfl; rw [h1] at q1; cases q1
    exact ⟨t', s', t0, by simp [lookM, this, q1], q2, q3⟩

theorem okM_look : ∀ {M : Mp} {k t s : Nat} {σ : Option Nat}, okM S M → lookM M k = some (σ, t, s) →
    (∃ τ t0, σ = some τ ∧ newM M τ = some k ∧ lookS S τ = some (.own t0 s) ∧ t ≤ t0) ∨ (σ = none ∧ t = 0)
  | [], k, t, s, σ, _, h => by simp [lookM] at h
  | (j, some τ, t', s') :: r, k, t, s, σ, h, hl => by
    obtain ⟨h1, h2, h3, h4⟩ := h
    simp only [lookM] at hl
    by_cases e : k = j
    · rw [if_pos e] at hl
      cases hl
      subst e
      split at h3
      · obtain ⟨rfl, h3⟩ := h3
        exact .inl ⟨τ, _, rfl, by simp [newM], ‹_›, h3⟩
      · exact h3.elim
    · rw [if_neg e] at hl
      rcases okM_look h4 hl with ⟨τ', t0, q1, q2, q3⟩ | q
      · refine .inl ⟨τ', t0, q1, ?_, q3⟩
        have : τ ≠ τ' := by rintro rfl; rw [h2] at q2; cases q2
        simp [newM, this, q2]
      · exact .inr q
  | (j, none, t', s') :: r, k, t, s, σ, h, hl => by
    obtain ⟨h1, h2, h4⟩ := h
    simp only [lookM] at hl
    by_cases e : k = j
    · rw [if_pos e] at hl
      cases hl
      exact .inr ⟨rfl, h2⟩
    · rw [if_neg e] at hl
      rcases okM_look h4 hl with ⟨τ', t0, q1, q2, q3⟩ | q
      · exact .inl ⟨τ', t0, q1, by simp [newM, q2], q3⟩
      · exact .inr q

theorem lookS_statM : ∀ (M : Mp) (k : Nat), lookS (statM M) k = match lookM M k with | some (_, t, s) => some (.own t s) | none => none
  | [], k => by simp [statM, lookS, lookM]
  | (j, o, t, s) :: r, k => by
    simp only [statM, lookS, lookM]
    by_cases e : k = j
    · simp [e]
    · rw [if_neg e, if_neg e]; exact lookS_statM r k

variable {Bo : List (Nat × List V)}

theorem weakG_less (h : HInv K Bo S γ w) : Less S M E B γ (weakG M B γ) := by
  refine ⟨fun g => weakG_O, fun σ top sz g hs _ hk hg => ?_, fun k σ t s hl => by simp [weakG, hl], fun n o g h1 h2 => by simp [weakG, h1, h2]⟩
  rcases h.sp σ top sz hs with ⟨q1, _⟩ | ⟨g2, _, _, q1, q2, _⟩
  · rw [hg] at q1; cases q1
  · rw [hg] at q1
    obtain rfl := Option.some.inj q1
    rintro (q | q)
    · simp [weakG, q2, hk] at q
    · have := (h.av.2 g q).2
      rw [q2] at this
      cases this

section
variable (hL : Less S M E B γ γ') (hM : okM S M)
include hL hM

theorem weak_own {σ top sz : Nat} {pre : Bool} {xs : List V} {v : Value} {k : Nat} (hk : newM M σ = some k) (ho : OwnSl γ w σ top sz pre xs v) : OwnSl γ' w k top sz pre xs v := by
  obtain ⟨t, s, t0, q1, q2, q3⟩ := okM_new hM hk
  rcases ho with ho | ⟨g, off, cap, c, e, fr, us, ev, hg, hcap, hmax, hsz, hlen, hus, h1, hel, hown⟩
  · exact .inl ho
  · refine .inr ⟨g, off, cap, c, e, fr, us, ev, hg, hcap, hmax, hsz, hlen, hus, h1, fun k h h' => (hel k h h').mono fun g o q1 q2 => ⟨fun q => q1 (hL.o _ q), q2⟩, ?_⟩
    rcases hown with ⟨r1, r2⟩ | ⟨r1, r2⟩
    · exact .inl ⟨by rw [hL.sp _ _ _ _ q1]; exact r1, r2⟩
    · exact .inr ⟨fun q => r1 (hL.o _ q), r2⟩

theorem weak_gone {σ top sz : Nat} {pre : Bool} {xs : List V} {v : Value} (hs : lookS S σ = some (.own top sz)) (hl : lent S E σ) (hk : newM M σ = none) (ho : OwnSl γ w σ top sz pre xs v) : PRel γ'.O w (.sl none sz xs) v := by
  rcases ho with ⟨rfl, rfl⟩ | ⟨g, off, cap, c, e, fr, us, rfl, hg, hcap, hmax, hsz, hlen, hus, h1, hel, hown⟩
  · exact .slnil sz none
  · refine .sl sz xs g off cap c e fr us hg ?_ hcap hmax hsz hlen hus h1 (fun k h h' => (hel k h h').mono fun g o q1 q2 => ⟨fun q => q1 (hL.o _ q), q2⟩)
    rcases hown with ⟨r1, r2⟩ | ⟨r1, r2⟩
    · exact hL.gone σ top sz g hs hl hk r1
    · exact fun q => r1 (hL.o _ q)

omit hM in
theorem relPs_rel : ∀ {xs ys : List V} {vs : List Value}, relPs B xs ys → vs.length = xs.length → (∀ k (h1 : k < xs.length) (h2 : k < vs.length), VRel S γ w xs[k] vs[k]) →
    vs.length = ys.length ∧ ∀ k (h1 : k < ys.length) (h2 : k < vs.length), VRel (statM M) γ' w ys[k] vs[k]
  | [], [], vs, _, hl, _ => ⟨hl, fun k h => by simp at h⟩
  | .ptr b o :: r, .ptr b' o' :: s, [], h, hl, _ => by simp at hl
  | .ptr b o :: r, .ptr b' o' :: s, v :: vs, h, hl, hv => by
    obtain ⟨rfl, h2, h3⟩ := h
    obtain ⟨h4, h5⟩ := relPs_rel (vs := vs) h3 (by simpa using hl) (fun k q1 q2 => hv (k + 1) (by simpa using q1) (by simpa using q2))
    refine ⟨by simp [h4], fun k hk hk' => ?_⟩
    cases k with
    | zero =>
      have := hv 0 (by simp) (by simp)
      obtain ⟨g, e, hg⟩ := VRel.ptr_inv this
      simp only [List.getElem_cons_zero] at e ⊢
      rw [e]
      exact .ptr (hL.bx _ _ _ h2 hg)
    | succ k => exact h5 k (by simpa using hk) (by simpa using hk')

theorem weak_cell {x y : V} {v : Value} (hr : relC M S E B x y) (hv : VRel S γ w x v) : VRel (statM M) γ' w y v := by
  have hp : ∀ {x : V}, PRel γ.O w x v → PRel γ'.O w x v := fun q => q.mono fun g o q1 q2 => ⟨fun q => q1 (hL.o _ q), q2⟩
  by_cases hy : y = .undef
  · subst hy; exact .base (.undef _)
  cases x <;> cases y <;> simp only [relC] at hr <;> first | exact hr.elim | exact absurd rfl hy | skip
  case bool.bool a b => subst hr; obtain rfl := hv.bool_inv; exact .base (.bool _)
  case int.int k n k' m => obtain ⟨rfl, rfl⟩ := hr; obtain rfl := hv.int_inv; exact .base (.int _ _)
  case str.str a b => subst hr; obtain ⟨s, rfl, e⟩ := hv.str_inv; exact .base (.str _ _ e)
  case nils.nils => obtain rfl := hv.nils_inv; exact .base .nils
  case nils.sl σ sz ys =>
    obtain rfl := hv.nils_inv
    cases σ with
    | none => simp only [relC] at hr; subst hr; exact .base (.slnil _ none)
    | some k =>
      simp only [relC] at hr
      obtain ⟨rfl, hl⟩ := hr
      exact .own (top := 0) (by rw [lookS_statM, hl]) (.inl ⟨rfl, rfl⟩)
  case sl.sl σ sz xs τ sz' ys =>
    cases σ with
    | none =>
      cases τ with
      | none =>
        simp only [relC] at hr
        obtain ⟨rfl, rfl⟩ := hr
        cases hv with | base hv => exact .base (hp hv)
      | some k => simp [relC] at hr
    | some σ =>
      cases τ with
      | none =>
        simp only [relC] at hr
        obtain ⟨rfl, rfl, hal, hnew⟩ := hr
        cases hv with
        | base hv => cases hv
        | own hs hv => exact .base (weak_gone hL hM hs hal hnew hv)
        | imm hs hv => exact .base (hp hv)
        | dead hs hv => simp [lent, hs] at hal
      | some k =>
        simp only [relC] at hr
        obtain ⟨rfl, rfl, hnew, hfull⟩ := hr
        obtain ⟨t, s, t0, q1, q2, q3⟩ := okM_new hM hnew
        simp only [fullM, q1, q2] at hfull
        subst hfull
        cases hv with
        | base hv => cases hv
        | own hs hv =>
          rw [q2] at hs
          cases hs
          exact .own (by rw [lookS_statM, q1]) (weak_own hL hM hnew hv)
        | imm hs hv => rw [q2] at hs; cases hs
        | dead hs hv => rw [q2] at hs; cases hs
  case vw.sl σ tt sz xs τ sz' ys =>
    cases τ with
    | some k =>
      cases tt with
      | none => simp [relC] at hr
      | some tt =>
        simp only [relC] at hr
        obtain ⟨rfl, rfl, hnew, hcut⟩ := hr
        obtain ⟨t, s, t0, q1, q2, q3⟩ := okM_new hM hnew
        simp only [cutM, q1, q2] at hcut
        obtain ⟨rfl, rfl⟩ := hcut
        cases hv with
        | base hv => cases hv
        | vown hs hv ht hp =>
          rw [q2] at hs
          cases hs
          refine .own (by rw [lookS_statM, q1]) ?_
          rcases hp rfl with ⟨rfl, rfl⟩ | ⟨g, cap, c, e, rfl, h1, h2, h3, h4, h5, h6⟩
          · exact .inl ⟨rfl, rfl⟩
          · rcases hv with ⟨hv, _⟩ | ⟨g', off, cap', c1, e1, fr, us, ev, hg, hcap, hmax, hsz, hlen, hus, h1c, hel, hown⟩
            · cases hv
            · cases ev
              rw [h1] at hg
              cases hg
              refine .inr ⟨g, 0, cap, c, e, (0, 0), us, rfl, h1, hcap, hmax, hsz, hlen, hus, h1c, fun k h h' => (hel k h h').mono fun g o q1 q2 => ⟨fun q => q1 (hL.o _ q), q2⟩, .inl ⟨by rw [hL.sp _ _ _ _ q1]; exact h2, by simp, fun _ => ⟨rfl, rfl, h3, Nat.le_refl _⟩⟩⟩
        | vimm hs hv => rw [q2] at hs; cases hs
        | vdead hs hv => rw [q2] at hs; cases hs
    | none =>
      simp only [relC] at hr
      obtain ⟨rfl, rfl, hal, hnew⟩ := hr
      cases hv with
      | base hv => cases hv
      | vown hs hv _ _ => exact .base (weak_gone hL hM hs hal hnew hv)
      | vimm hs hv => exact .base (hp hv)
      | vdead hs hv => simp [lent, hs] at hal
  case nilp.nilp => obtain rfl := hv.nilp_inv; exact .nilp
  case nilb.nilb b t b' t' =>
    obtain ⟨rfl, hb⟩ := hr
    cases hv with
    | base hv => cases hv
    | nilb h ht => exact .nilb (hL.bx _ _ _ hb h) ht
  case bb.bb e σ l e' k l' =>
    obtain ⟨rfl, rfl, hnew, hfull⟩ := hr
    obtain ⟨t, s, t0, q1, q2, q3⟩ := okM_new hM hnew
    simp only [fullM, q1, q2] at hfull
    subst hfull
    cases hv with
    | base hv => cases hv
    | bb hi hs h =>
      rw [q2] at hs
      cases hs
      refine .bb (s := .own t s) hi (by rw [lookS_statM, q1]) (fun t2 z2 q => ?_)
      cases q
      obtain ⟨r1, r2⟩ := h _ _ rfl
      refine ⟨r1, fun r3 => ?_⟩
      rcases r2 r3 with r | ⟨g, cap, c, u1, u2, u3⟩
      · exact .inl r
      · exact .inr ⟨g, cap, c, u1, by rw [hL.sp _ _ _ _ q1]; exact u2, u3⟩
  case ptr.ptr b o b' o' =>
    obtain ⟨rfl, hb⟩ := hr
    obtain ⟨g, rfl, hg⟩ := hv.ptr_inv
    exact .ptr (hL.bx _ _ _ hb hg)
  case fn.fn f cs g ds =>
    obtain ⟨rfl, hc⟩ := hr
    obtain ⟨vs, rfl, hl, he⟩ := hv.fn_inv
    obtain ⟨q1, q2⟩ := relPs_rel hL hc hl he
    exact .fn _ _ _ q1 q2

omit hL hM in
theorem relCs_get : ∀ {xs ys : List V}, relCs M S E B xs ys → xs.length = ys.length ∧ ∀ k (h1 : k < xs.length) (h2 : k < ys.length), relC M S E B xs[k] ys[k]
  | [], [], _ => ⟨rfl, fun k h => by simp at h⟩
  | x :: r, y :: s, h => by
    obtain ⟨h1, h2⟩ := h
    obtain ⟨h3, h4⟩ := relCs_get h2
    refine ⟨by simp [h3], fun k hk hk' => ?_⟩
    cases k with
    | zero => exact h1
    | succ k => exact h4 k (by simpa using hk) (by simpa using hk')
  | [], _ :: _, h => h.elim
  | _ :: _, [], h => h.elim

omit hL hM in
theorem relAs_get : ∀ {xs ys : List V}, relAs M S E B xs ys → xs.length = ys.length ∧ ∀ k (h1 : k < xs.length) (h2 : k < ys.length), relA M S E B xs[k] ys[k]
  | [], [], _ => ⟨rfl, fun k h => by simp at h⟩
  | x :: r, y :: s, h => by
    obtain ⟨h1, h2⟩ := h
    obtain ⟨h3, h4⟩ := relAs_get h2
    refine ⟨by simp [h3], fun k hk hk' => ?_⟩
    cases k with
    | zero => exact h1
    | succ k => exact h4 k (by simpa using hk) (by simpa using hk')
  | [], _ :: _, h => h.elim
  | _ :: _, [], h => h.elim

theorem weak_cells {xs ys : List V} {vs : List Value} (hr : relCs M S E B xs ys) (hv : CellsRel S γ w xs vs) : CellsRel (statM M) γ' w ys vs := by
  obtain ⟨h1, h2⟩ := relCs_get hr
  exact ⟨by rw [hv.1, h1], fun k q1 q2 => weak_cell hL hM (h2 k (by omega) q1) (hv.2 k (by omega) q2)⟩

theorem weak_A {x y : V} {v : Value} (hr : relA M S E B x y) (hv : VRel S γ w x v) : VRel (statM M) γ' w y v := by
  unfold relA at hr
  split at hr
  · obtain ⟨vs, rfl, hl, he⟩ := hv.agg_inv
    obtain ⟨q1, q2⟩ := weak_cells hL hM hr ⟨hl, he⟩
    exact .agg _ _ q1 q2
  · exact weak_cell hL hM hr hv

theorem weak_As {xs ys : List V} {vs : List Value} (hr : relAs M S E B xs ys) (hl : vs.length = xs.length) (hv : ∀ k (h1 : k < xs.length) (h2 : k < vs.length), VRel S γ w xs[k] vs[k]) : CellsRel (statM M) γ' w ys vs := by
  obtain ⟨h1, h2⟩ := relAs_get hr
  exact ⟨by omega, fun k q1 q2 => weak_A hL hM (h2 k (by omega) q1) (hv k (by omega) q2)⟩

theorem weak_V {x y : V} {v : Value} (hr : relV M S E B x y) (hv : VRel S γ w x v) : VRel (statM M) γ' w y v := by
  unfold relV at hr
  split at hr
  · obtain ⟨vs, rfl, hl, he⟩ := hv.tup_inv
    obtain ⟨q1, q2⟩ := weak_As hL hM hr hl he
    exact .tup _ _ q1 q2
  · exact weak_A hL hM hr hv
end

/-- Which variables are kept, and what is said of them. -/
def okB (M : Mp) (S : Stats) (E : Option (List Nat)) (Bo : List (Nat × List V)) (B : Bm) : List (Nat × List V) → Prop
  | [] => True
  | (b, cs) :: r => (match lookN B b with | some b' => (match lookB Bo b' with | some ds => relCs M S E B ds cs | none => False) | none => False) ∧ okB M S E Bo B r

def hasB (B' : List (Nat × List V)) : Bm → Prop
  | [] => True
  | (n, _) :: r => (lookB B' n).isSome = true ∧ hasB B' r

theorem hasB_look {B' : List (Nat × List V)} : ∀ {B : Bm}, hasB B' B → ∀ {n o : Nat}, lookN B n = some o → (lookB B' n).isSome = true
  | [], _, n, o, h => by simp [lookN] at h
  | (n', o') :: r, ⟨h1, h2⟩, n, o, h => by
    simp only [lookN] at h
    by_cases e : n = n'
    · rw [e]; exact h1
    · rw [if_neg e] at h; exact hasB_look h2 h

/-- The variables that were handed over are kept. -/
def keepB (B : Bm) : List (Nat × List V) → Prop
  | [] => True
  | (b, _) :: r => (1000 ≤ b → lookN B b = some b) ∧ keepB B r

theorem keepB_look {B : Bm} : ∀ {Bo : List (Nat × List V)}, keepB B Bo → ∀ {b : Nat}, 1000 ≤ b → (lookB Bo b).isSome = true → lookN B b = some b
  | [], _, b, _, h => by simp [lookB] at h
  | (b', cs) :: r, ⟨h1, h2⟩, b, hb, h => by
    simp only [lookB] at h
    by_cases e : b = b'
    · subst e; exact h1 hb
    · rw [if_neg e] at h; exact keepB_look h2 hb h

theorem okB_look : ∀ {B' : List (Nat × List V)}, okB M S E Bo B B' → ∀ {b : Nat} {cs : List V}, lookB B' b = some cs → ∃ b' ds, lookN B b = some b' ∧ lookB Bo b' = some ds ∧ relCs M S E B ds cs
  | [], _, b, cs, hl => by simp [lookB] at hl
  | (b', cs') :: r, ho, b, cs, hl => by
    obtain ⟨h2, h3⟩ := ho
    simp only [lookB] at hl
    by_cases e : b = b'
    · rw [if_pos e] at hl
      cases hl
      subst e
      cases q : lookN B b with
      | none => rw [q] at h2; exact h2.elim
      | some o =>
        rw [q] at h2
        simp only at h2
        cases q2 : lookB Bo o with
        | none => rw [q2] at h2; exact h2.elim
        | some ds => rw [q2] at h2; exact ⟨o, ds, rfl, q2, h2⟩
    · rw [if_neg e] at hl
      exact okB_look h3 hl

theorem weak_H (h : HInv K Bo S γ w) (hM : okM S M) {B' : List (Nat × List V)} (hN : okN B) (hB : okB M S E Bo B B') (hB2 : hasB B' B) (hB3 : keepB B Bo) : HInv K B' (statM M) (weakG M B γ) w := by
  have hL : Less S M E B γ (weakG M B γ) := weakG_less h
  refine ⟨fun d cs hl => ?_, ⟨fun d g hg => ?_, fun d g hg => ?_⟩, fun k t s hs => ?_, fun g x hg => ?_, ⟨h.av.1, fun g hg => ?_⟩, h.frame⟩
  · obtain ⟨o, ds, q1, q2, q3⟩ := okB_look hB hl
    obtain ⟨g, c, e, r1, r2, r3, r4, r5⟩ := h.box o ds q2
    obtain ⟨u1, u2⟩ := weak_cells (vs := c.toList) hL hM q3 ⟨by simpa using r4, fun k a1 a2 => by simpa using r5 k a1 (by simpa using a2)⟩
    exact ⟨g, c, e, by simp [weakG, q1, r1], by simp [weakG, r2, lookN_old hN q1, r1], r3, by simpa using u1, fun k a1 a2 => by have := u2 k a1 (by simpa using a2); simpa only [Array.getElem_toList] using this⟩
  · simp only [weakG] at hg
    cases q : lookN B d with
    | none => rw [q] at hg; cases hg
    | some o => exact hasB_look hB2 q
  · have h1 := h.bxd.2 d g hg
    have := keepB_look hB3 (K.l1000 d g hg) (h.bxd.1 _ _ h1)
    simp [weakG, this, h1]
  · rw [lookS_statM] at hs
    split at hs
    · rename_i o t' s' hl
      cases hs
      rcases okM_look hM hl with ⟨τ, t0, rfl, q1, q2, q3⟩ | ⟨rfl, rfl⟩
      · rcases h.sp τ t0 s q2 with ⟨r1, r2⟩ | ⟨g, c, e, r1, r2, r3, r4⟩
        · exact .inl ⟨by simp [weakG, hl, r1], by omega⟩
        · exact .inr ⟨g, c, e, by simp [weakG, hl, r1], by simp [weakG, r2, q1], r3, Nat.le_trans (Nat.mul_le_mul_right _ q3) r4⟩
      · exact .inl ⟨by simp [weakG, hl], rfl⟩
    · cases hs
  · simp only [weakG] at hg
    cases e : γ.ow g with
    | none => rw [e] at hg; cases hg
    | some y => exact h.ow g y e
  · have := h.av.2 g hg
    exact ⟨this.1, by simp [weakG, this.2]⟩

end
end

end Go.Proofs.YtnhhcfbigjpfeaaDoor
