/-
  'make', and all operations together.
-/
import Derived.Test.YtpiafiapjmldgaaSoundB
import Derived.Laws.StructEq
import Derived.Laws.MakeOwn
namespace Go.Proofs.Ytpiafiapjmldgaa
set_option linter.all false

section ops
variable {P : Program} {L : Nat → Bool} {n : Nat} {K : Ctx} {st : St} {γ : Ghost} {a : Act} {w : World} {o : Oper} {dst : AD}

theorem flat_replicate_get {x : V} {sz : Nat} (hx : x.cells.length = sz) (h0 : 0 < sz) : ∀ (m k : Nat) (h : k < (flat (List.replicate m x)).length), (flat (List.replicate m x))[k] = x.cells[k % sz]'(by rw [hx]; exact Nat.mod_lt _ h0)
  | 0, k, h => by simp [flat] at h
  | m + 1, k, h => by
    simp only [List.replicate_succ, flat_cons] at h ⊢
    by_cases hk : k < sz
    · rw [List.getElem_append_left (by omega)]
      simp only [Nat.mod_eq_of_lt hk]
    · rw [List.getElem_append_right (by omega), flat_replicate_get hx h0 m]
      simp only [hx]
      congr 1
      exact (Nat.mod_eq_sub_mod (by omega)).symm

theorem sound_make (h : SRel L n K st γ a w) (hd : dst.ok L n) {t e : TypeId} {i : TypeInfo} {zv : Value} {z : V} {A B : Operand} {x y : AX} (hop : o.op = .makeSlice t A B) (ht : P.underlying t = some (.slice e)) (hi : P.info? e = some i)
    (hz : i.zero = some zv) (hzv : constV zv = some z) (h0 : 0 < i.size) (hb : 0 < i.bytes) (hok : z.okEl = true) (hst : z.stamps = []) (hzl : z.cells.length = i.size) (hx : stripX L A = some x) (hy : stripX L B = some y)
    {d : Nat} {p : Prop} {δ : Delta} (hδ : astep st d (.make i.size i.bytes z x y) = some (p, δ)) (hp : p) : Runs P L n K (δ.apply st dst) dst.toOpt o a w := by
  have rx := stripX_rel h hx
  have ry := stripX_rel h hy
  simp only [astep] at hδ
  split at hδ <;> first | (simp only [Option.some.injEq, Prod.mk.injEq] at hδ; obtain ⟨rfl, rfl⟩ := hδ) | cases hδ
  rename_i k1 m k2 c e1 e2
  rw [e1] at rx; rw [e2] at ry
  obtain ⟨p1, p2, p3, p4⟩ := hp
  obtain ⟨r1, r2, r3⟩ := roomOk_maxLen p3 hb
  obtain ⟨q1, q2, q3⟩ := (constV_rel hzv st.stat γ w).er hok (by rw [hst]; simp)
  have hzs : zv.cells.size = i.size := by rw [q1, V.er_cells]; simpa using hzl
  have hel : z.er.cells.length = i.size := by rw [V.er_cells]; simpa using hzl
  generalize hcells : madeCells zv.cells (c.toNat * i.size) = cells
  have hget : ∀ k, k < c.toNat * i.size → cells[k]? = some (zv.cells[k % i.size]'(by rw [hzs]; exact Nat.mod_lt _ h0)) := by
    intro k hk
    rw [← hcells]
    unfold madeCells
    have hlt : k % i.size < zv.cells.size := by rw [hzs]; exact Nat.mod_lt _ h0
    have hlt2 : k % zv.cells.size < zv.cells.size := by rw [hzs]; rw [hzs] at hlt; exact hlt
    rw [Array.getElem?_map, Array.getElem?_range]
    rw [if_pos hk]
    simp only [Option.map_some, Option.some.injEq]
    rw [getElem!_pos zv.cells _ hlt2]
    congr 1
    rw [hzs]
  have hcs : cells.size = c.toNat * i.size := by rw [← hcells, size_madeCells]
  have hmc : m.toNat * i.size ≤ c.toNat * i.size := Nat.mul_le_mul_right _ (by omega)
  have hfl : (flat (List.replicate m.toNat z.er)).length = m.toNat * i.size := by
    have := length_flat (xs := List.replicate m.toNat z.er) (sz := i.size) (fun x hx => by rw [List.eq_of_mem_replicate hx]; exact hel)
    simpa using this
  let us : List Value := (List.range (m.toNat * i.size)).map fun k => zv.cells[k % i.size]'(by rw [hzs]; exact Nat.mod_lt _ h0)
  obtain ⟨γ', h2⟩ := new_own h hd p4 (pushed_alloc w (.cells cells e)) (xs := List.replicate m.toNat z.er) (sz := i.size) (cap := c.toNat) (us := us)
    (by simp; omega) r1 (fun x hx => by rw [List.eq_of_mem_replicate hx]; exact hel) (by rw [hfl]; simp [us])
    (fun k hk => by
      have hk' : k < m.toNat * i.size := by simpa [us] using hk
      rw [hget k (by omega)]
      simp [us, hk'])
    (fun u hu => by
      obtain ⟨k, hk, rfl⟩ := List.mem_map.1 hu
      exact q3 _ (Array.getElem_mem _))
    (fun k hk hk' => by
      rw [flat_replicate_get hel h0]
      simp only [us, List.getElem_map, List.getElem_range]
      exact q2 _ _ _) hcs (cl := .n)
  have hrun : (Instr.makeSlice t (a.eval A) (a.eval B)).run P w = .ok (.slice (some ⟨w.heap.size, 0, none⟩) m.toNat c.toNat) (w.alloc (.cells cells e)) := by
    have hbc : (i.bytes : Int) * c ≤ 281474976710656 := by
      have : ((c.toNat * i.bytes : Nat) : Int) ≤ 281474976710656 := by omega
      rw [Int.natCast_mul, Int.toNat_of_nonneg (by omega), Int.mul_comm] at this
      exact this
    rw [rx.int_inv, ry.int_inv, ← hcells]
    exact run_make w t e i zv ht hi hz k1 k2 m c p1 p2 hbc (by omega)
  refine ⟨_, _, γ',   .inl (?_ : _ = Result.ok (Next.value (Value.slice (some ⟨w.heap.size, 0, none⟩) m.toNat c.toNat)) (w.alloc (Obj.cells cells e))), by simp only [List.length_replicate] at h2; exact h2⟩
  rw [show execOp a.eval o = (do pure (Next.value (← Instr.makeSlice t (a.eval A) (a.eval B)))) from by simp only [execOp, hop]]
  exact exec_value hrun

theorem flatF_run {S : Stats} {as bs : List V} {us vs : List Value} (ha : CellsRel S γ w as us) (hb : CellsRel S γ w bs vs) {e : Nat} : ∀ {fs : List Field} {i : Nat} {ks : List Nat}, flatF P i fs = some ks → as.length = i + fs.length → bs.length = i + fs.length →
    eqK ks (as.drop i) (bs.drop i) → (Op.eqFields (e + 1) us.toArray vs.toArray fs).run P w = .ok (eqC (as.drop i) (bs.drop i)) w
  | [], i, ks, h, h1, h2, hk => by
    rw [List.drop_of_length_le (by simp at h1; omega), List.drop_of_length_le (by simp at h2; omega)]
    rfl
  | f :: r, i, ks, h, h1, h2, hk => by
    simp only [flatF] at h
    split at h <;> try (cases h; done)
    rename_i l u e1 e2 e3 e4
    split at h <;> try (cases h; done)
    rename_i q
    simp only [List.length_cons] at h1 h2
    have ia : i < as.length := by omega
    have ib : i < bs.length := by omega
    rw [List.drop_eq_getElem_cons ia, List.drop_eq_getElem_cons ib] at hk ⊢
    have ih := flatF_run ha hb (e := e) e1 (by omega) (by omega)
    obtain ⟨pu, ru, vu⟩ := part_rel (P := P) ha (t := f.type) (off := i) e2 e3 (.inr rfl) (by omega)
    obtain ⟨pv, rv, vv⟩ := part_rel (P := P) hb (t := f.type) (off := i) e2 e3 (.inr rfl) (by omega)
    have gu : part false 1 i as = as[i] := by simp [part, List.getD_eq_getElem?_getD, ia]
    have gv : part false 1 i bs = bs[i] := by simp [part, List.getD_eq_getElem?_getD, ib]
    rw [gu] at vu
    rw [gv] at vv
    have key : ∀ {c : Bool} {tl : Bool}, (Op.equalIn (e + 1) f.type pu pv).run P w = .ok c w → (c = true → (Op.eqFields (e + 1) us.toArray vs.toArray r).run P w = .ok tl w) →
        (Op.eqFields (e + 1) us.toArray vs.toArray (f :: r)).run P w = .ok (c && tl) w := fun {c tl} h3 h4 => by
      simp only [Op.eqFields, q.1, ne_eq, not_false_eq_true, if_true, Sem.run_bind, q.2, ru, rv, Result.andThen, h3]
      cases c with
      | false => simp
      | true => simpa using h4 rfl
    generalize as[i] = x at vu hk ⊢
    generalize bs[i] = y at vv hk ⊢
    have hk0 : ∃ k, ks = k :: l ∧ ((k = 0 ∧ ∃ k0, u = .int k0) ∨ (k = 1 ∧ u = .bool) ∨ (k = 2 ∧ u = .string)) := by
      cases u <;> first | (cases h; done) | (obtain rfl := Option.some.inj h; simp)
    obtain ⟨k, rfl, hu⟩ := hk0
    simp only [eqK] at hk
    obtain ⟨hk1, hk2⟩ := hk
    simp only [eqC]
    refine key (c := eqC1 x y) ?_ (fun _ => ih hk2)
    cases x <;> cases y <;> simp only [eqK1] at hk1 <;> first | exact hk1.elim | skip
    · subst hk1
      obtain rfl := vu.bool_inv
      obtain rfl := vv.bool_inv
      rcases hu with ⟨q, _⟩ | ⟨_, rfl⟩ | ⟨q, _⟩ <;> first | cases q | skip
      exact run_equalIn_bool' w e f.type _ _ e4
    · obtain ⟨rfl, rfl⟩ := hk1
      obtain rfl := vu.int_inv
      obtain rfl := vv.int_inv
      rcases hu with ⟨_, k0, rfl⟩ | ⟨q, _⟩ | ⟨q, _⟩ <;> first | cases q | skip
      rw [run_equalIn_int w e f.type _ k0 _ _ e4]; rfl
    · subst hk1
      obtain ⟨s, rfl, rfl⟩ := vu.str_inv
      obtain ⟨t, rfl, rfl⟩ := vv.str_inv
      rcases hu with ⟨q, _⟩ | ⟨q, _⟩ | ⟨_, rfl⟩ <;> first | cases q | skip
      rw [run_equalIn_string w e f.type s t e4, ByteArray.toList_eq, ByteArray.toList_eq]
      congr 1
      rw [Bool.eq_iff_iff]; simp [eqC1]

theorem eqK_len : ∀ {ks : List Nat} {a b : List V}, eqK ks a b → a.length = ks.length ∧ b.length = ks.length
  | [], [], [], _ => ⟨rfl, rfl⟩
  | k :: r, x :: a, y :: b, h => by have := eqK_len h.2; simp [this]
  | [], _ :: _, _, h => h.elim
  | [], [], _ :: _, h => h.elim
  | n :: r, [], _, h => h.elim
  | n :: r, x :: a, [], h => h.elim

theorem flatF_len : ∀ {fs : List Field} {i : Nat} {ks : List Nat}, flatF P i fs = some ks → fs.length = ks.length
  | [], i, ks, h => by simp [flatF] at h; subst h; rfl
  | f :: r, i, ks, h => by
    simp only [flatF] at h
    split at h <;> try (cases h; done)
    rename_i l u e1 e2 e3 e4
    split at h <;> try (cases h; done)
    have := flatF_len e1
    split at h <;> first | (obtain rfl := Option.some.inj h; simp [this]) | cases h

theorem sound_eqs (h : SRel L n K st γ a w) (hd : dst.ok L n) {op : BinOp} {neg : Bool} (hneg : op = if neg then .neq else .eql) {t t' : TypeId} {X Y : Operand} {x y : AX} {fs : Array Field} {ks : List Nat} (hop : o.op = .binOp op t X Y t')
    (ht : P.underlying t = some (.struct fs)) (hk : flatF P 0 fs.toList = some ks) (hg : P.eqGuardType P.depth t = false) (hh : P.stoodInHeld t = false) (hx : stripX L X = some x) (hy : stripX L Y = some y)
    {d : Nat} {p : Prop} {δ : Delta} (hδ : astep st d (.eqs neg ks x y) = some (p, δ)) (hp : p) : Runs P L n K (δ.apply st dst) dst.toOpt o a w := by
  have rx := stripX_rel h hx
  have ry := stripX_rel h hy
  simp only [astep] at hδ
  split at hδ <;> try (cases hδ; done)
  rename_i as bs e1 e2
  simp only [Option.some.injEq, Prod.mk.injEq] at hδ
  obtain ⟨rfl, rfl⟩ := hδ
  rw [e1] at rx
  rw [e2] at ry
  obtain ⟨us, hu, hul, hue⟩ := rx.agg_inv
  obtain ⟨vs, hv, hvl, hve⟩ := ry.agg_inv
  have hfo : P.fieldsOf t = fs := by simp [Program.fieldsOf, ht]
  obtain ⟨l1, l2⟩ := eqK_len hp
  have l3 := flatF_len hk
  have hrun : (Op.equalIn 10000 t (.agg us.toArray) (.agg vs.toArray)).run P w = .ok (eqC as bs) w := by
    rw [run_equalIn_struct w 9999 t us.toArray vs.toArray (by rw [hfo]; exact ht) hh, hfo]
    have := flatF_run (P := P) (S := st.stat) (γ := γ) (w := w) (as := as) (bs := bs) ⟨hul, hue⟩ ⟨hvl, hve⟩ (e := 9998) hk (by omega) (by omega) (by simpa using hp)
    simpa using this
  refine Runs.pure h hd (.base (.bool _)) ?_
  cases neg with
  | false =>
    obtain rfl : op = .eql := hneg
    simp [execOp, hop, hu, hv, run_eqGuard_agg w _ t X Y us.toArray vs.toArray hg, run_eql_struct, hrun, Result.andThen]
  | true =>
    obtain rfl : op = .neq := hneg
    simp [execOp, hop, hu, hv, run_eqGuard_agg w _ t X Y us.toArray vs.toArray hg, run_neq_struct, hrun, Result.andThen]

/-- Every operation but a call of a function: what the abstract machine does, the model does. -/
theorem sound_op (h : SRel L n K st γ a w) (hd : dst.ok L n) {op : AO} (hs : stripO P L o.op = some op) {d : Nat} {p : Prop} {δ : Delta} (hδ : astep st d op = some (p, δ)) (hp : p) :
    Runs P L n K (δ.apply st dst) dst.toOpt o a w := by
  have hs0 := hs
  unfold stripO at hs
  split at hs
  case h_1 x hop =>
    obtain ⟨y, hy, rfl⟩ := Option.map_eq_some_iff.1 hs
    exact sound_mv h hd (.inl hop) hy hδ hp
  case h_2 x hop =>
    obtain ⟨y, hy, rfl⟩ := Option.map_eq_some_iff.1 hs
    exact sound_mv h hd (.inr hop) hy hδ hp
  case h_3 c x y hop =>
    split at hs <;> first | (obtain rfl := Option.some.inj hs) | cases hs
    exact sound_pick h hd hop ‹_› ‹_› ‹_› hδ hp
  case h_4 t hop =>
    split at hs <;> first | (obtain rfl := Option.some.inj hs) | cases hs
    · exact sound_allocN h hd hop ‹_› hδ hp
    · exact sound_alloc h hd hop ‹_› hδ hp
  case h_5 t x hop =>
    obtain ⟨y, hy, rfl⟩ := Option.map_eq_some_iff.1 hs
    exact sound_box h hd hop hy hδ hp
  case h_6 t parts hop =>
    exact sound_build h hd hop (by rw [hop] at hs0; exact hs0) hδ hp
  case h_7 t m parts hop =>
    split at hs <;> try (cases hs; done)
    split at hs <;> try (cases hs; done)
    split at hs <;> first | (obtain rfl := Option.some.inj hs) | cases hs
    rename_i q
    exact sound_lits h hd hop ‹_› ‹_› ‹_› ‹_› q.1 q.2 hδ hp
  case h_8 t x hop =>
    split at hs <;> try (cases hs; done)
    split at hs <;> first | (obtain rfl := Option.some.inj hs) | cases hs
    exact sound_load h hd hop ‹_› ‹_› ‹_› ‹_› hδ hp
  case h_9 t x y hop =>
    split at hs <;> first | (obtain rfl := Option.some.inj hs) | cases hs
    exact sound_store h hd hop ‹_› ‹_› ‹_› hδ hp
  case h_10 x hop =>
    obtain ⟨y, hy, rfl⟩ := Option.map_eq_some_iff.1 hs
    exact sound_nilc h hd hop hy hδ hp
  case h_11 bop t x y t' hop =>
    split at hs
    · split at hs <;> first | (obtain rfl := Option.some.inj hs) | cases hs
      · exact sound_beq (neg := false) h hd hop ‹_› ‹_› ‹_› hδ hp
      · exact sound_beq (neg := true) h hd hop ‹_› ‹_› ‹_› hδ hp
    · split at hs <;> try (cases hs; done)
      · split at hs <;> first | (obtain rfl := Option.some.inj hs) | cases hs
        rename_i q
        exact sound_eqs (neg := false) h hd rfl hop ‹_› ‹_› q.1 q.2 ‹_› ‹_› hδ hp
      · split at hs <;> first | (obtain rfl := Option.some.inj hs) | cases hs
        rename_i q
        exact sound_eqs (neg := true) h hd rfl hop ‹_› ‹_› q.1 q.2 ‹_› ‹_› hδ hp
    · obtain rfl := Option.some.inj hs
      exact sound_bin h hd hop ‹_› ‹_› hδ hp
    · cases hs
  case h_12 uop t x hop =>
    obtain ⟨y, hy, rfl⟩ := Option.map_eq_some_iff.1 hs
    exact sound_un h hd hop hy hδ hp
  case h_13 src t x hop =>
    split at hs
    · obtain rfl := Option.some.inj hs
      exact sound_conv h hd hop ‹_› ‹_› ‹_› hδ hp
    · split at hs <;> first | (obtain rfl := Option.some.inj hs) | cases hs
      exact sound_toStr h hd hop ‹_› ‹_› ‹_› ‹_› hδ hp
    · cases hs
  case h_14 f first cap hop =>
    split at hs <;> try (cases hs; done)
    obtain ⟨y, hy, rfl⟩ := Option.map_eq_some_iff.1 hs
    exact sound_mkfn h hd hop ‹_› hy hδ hp
  case h_15 t l c hop =>
    split at hs <;> try (cases hs; done)
    split at hs <;> try (cases hs; done)
    split at hs <;> first | (obtain rfl := Option.some.inj hs) | cases hs
    rename_i i z zs x y hi hzv hzt hx hy q
    obtain ⟨q1, q2, q3, q4, q5, q6⟩ := q
    have hz : ∃ zv, i.zero = some zv ∧ constV zv = some z := by
      unfold zeroV at hzv
      rw [hi] at hzv
      simp only at hzv
      split at hzv
      · exact ⟨_, ‹_›, hzv⟩
      · cases hzv
    obtain ⟨zv, hz1, hz2⟩ := hz
    exact sound_make h hd hop ‹_› hi hz1 hz2 q2 q3 q4 q5 q6 hx hy hδ hp
  case h_16 t x lo hi hop =>
    split at hs
    · obtain rfl := Option.some.inj hs
      exact sound_cutStr h hd hop ‹_› ‹_› ‹_› ‹_› hδ hp
    · split at hs <;> first | (obtain rfl := Option.some.inj hs) | cases hs
      exact sound_cutSl h hd hop ‹_› ‹_› ‹_› ‹_› ‹_› hδ hp
    · cases hs
  case h_17 t x f hop =>
    split at hs <;> try (cases hs; done)
    split at hs <;> try (cases hs; done)
    split at hs <;> try (cases hs; done)
    split at hs <;> first | (obtain rfl := Option.some.inj hs) | cases hs
    exact sound_faddr h hd hop ‹_› ‹_› ‹_› ‹_› ‹_› hδ hp
  case h_18 t x f hop =>
    split at hs <;> try (cases hs; done)
    split at hs <;> try (cases hs; done)
    split at hs <;> try (cases hs; done)
    split at hs <;> first | (obtain rfl := Option.some.inj hs) | cases hs
    exact sound_field h hd hop ‹_› ‹_› ‹_› ‹_› ‹_› ‹_› hδ hp
  case h_19 t x i hop =>
    split at hs <;> try (cases hs; done)
    · obtain ⟨y, hy, rfl⟩ := Option.map_eq_some_iff.1 hs
      exact sound_elS h hd hop ‹_› hy ‹_› ‹_› hδ hp
    · obtain ⟨y, hy, rfl⟩ := Option.map_eq_some_iff.1 hs
      exact sound_elA h hd hop ‹_› hy ‹_› ‹_› hδ hp
  case h_20 t x i hop =>
    split at hs
    · obtain rfl := Option.some.inj hs
      exact sound_idxStr h hd hop ‹_› ‹_› ‹_› hδ hp
    · split at hs <;> try (cases hs; done)
      split at hs <;> first | (obtain rfl := Option.some.inj hs) | cases hs
      exact sound_idxArr h hd hop ‹_› ‹_› ‹_› ‹_› ‹_› ‹_› hδ hp
    · cases hs
  case h_21 x i hop =>
    obtain ⟨y, hy, rfl⟩ := Option.map_eq_some_iff.1 hs
    exact sound_extract h hd hop hy hδ hp
  case h_22 b args ts hop =>
    split at hs <;> try (cases hs; done)
    rename_i l hl
    unfold stripBuiltin at hs
    split at hs
    · obtain ⟨x, r, e1, e2, e3⟩ := stripXs_cons hl
      obtain rfl := stripXs_nil e3
      split at hs <;> first | (obtain rfl := Option.some.inj hs) | cases hs
      · exact sound_lenStr h hd hop rfl e1 ‹_› ‹_› e2 hδ hp
      · exact sound_len h hd hop rfl e1 ‹_› ‹_› e2 hδ hp
      · exact sound_lenArr h hd hop rfl e1 ‹_› ‹_› hδ hp
    · obtain ⟨x, r, e1, e2, e3⟩ := stripXs_cons hl
      obtain ⟨x2, r2, e4, e5, e6⟩ := stripXs_cons e3
      obtain rfl := stripXs_nil e6
      subst e4
      obtain rfl := Option.some.inj hs
      exact sound_min h hd hop rfl e1 e2 e5 hδ hp
    · obtain ⟨x, r, e1, e2, e3⟩ := stripXs_cons hl
      obtain ⟨x2, r2, e4, e5, e6⟩ := stripXs_cons e3
      obtain rfl := stripXs_nil e6
      subst e4
      obtain rfl := Option.some.inj hs
      exact sound_max h hd hop rfl e1 e2 e5 hδ hp
    · obtain ⟨x, r, e1, e2, e3⟩ := stripXs_cons hl
      obtain ⟨x2, r2, e4, e5, e6⟩ := stripXs_cons e3
      obtain rfl := stripXs_nil e6
      subst e4
      split at hs <;> try (cases hs; done)
      · rename_i el el2 hu1 hu2
        split at hs <;> try (cases hs; done)
        split at hs <;> try (cases hs; done)
        split at hs <;> first | (obtain rfl := Option.some.inj hs) | cases hs
        rename_i q
        obtain ⟨rfl, q2, q3⟩ := q
        clear hu2
        have hδ0 := hδ
        simp only [astep] at hδ
        split at hδ <;> try (cases hδ; done)
        split at hδ <;> try (cases hδ; done)
        · rename_i ys hys hX
          simp only [Option.some.injEq, Prod.mk.injEq] at hδ
          obtain ⟨rfl, rfl⟩ := hδ
          obtain ⟨p1, p2, p3, p4⟩ := hp
          have := stripX_rel h e2
          rw [hX] at this
          exact sound_append_nil h hd hop rfl e1 ‹_› ‹_› ‹_› ‹_› q2 q3 e5 this.nils_inv ‹_› p1 p2 p3 p4
        · rename_i ys hys σ sz' xs hX
          split at hδ <;> try (cases hδ; done)
          rename_i top sz'' hS
          simp only [Option.some.injEq, Prod.mk.injEq] at hδ
          obtain ⟨rfl, rfl⟩ := hδ
          obtain ⟨rfl, rfl, p2, p3, p4, p5⟩ := hp
          exact sound_append_own h hd hop rfl e1 ‹_› ‹_› ‹_› ‹_› q2 q3 e2 e5 hX hS p5 ‹_› p2 p3 p4
        · rename_i ys hys σ tt sz' xs hX
          split at hδ <;> try (cases hδ; done)
          rename_i top sz'' hS
          simp only [Option.some.injEq, Prod.mk.injEq] at hδ
          obtain ⟨rfl, rfl⟩ := hδ
          obtain ⟨rfl, rfl, rfl, p2, p3, p4, p5⟩ := hp
          exact sound_append_pf h hd hop rfl e1 ‹_› ‹_› ‹_› ‹_› q2 q3 e2 e5 hX hS p5 ‹_› p2 p3 p4
      · split at hs <;> try (cases hs; done)
        split at hs <;> try (cases hs; done)
        split at hs <;> first | (obtain rfl := Option.some.inj hs) | cases hs
        rename_i q
        obtain ⟨q1, q2, q3⟩ := q
        exact sound_appStr h hd hop rfl e1 ‹_› ‹_› ‹_› ‹_› ‹_› q1 q2 q3 e2 e5 hδ hp
    · cases hs
  case h_23 f args ts hop =>
    split at hs <;> first | (obtain rfl := Option.some.inj hs) | cases hs
    · simp [astep] at hδ
    · simp [astep] at hδ
  case h_24 => cases hs

end ops
end Go.Proofs.Ytpiafiapjmldgaa
