/-
  The operations that only compute, continued: lengths, cuts, indexes, parts.
  Cuts of slices, their elements, parts of structs and arrays, loads.
-/
import Derived.Test.YtnhhcfbigjpfeaaDoorQ02
namespace Go.Proofs.YtnhhcfbigjpfeaaDoor
set_option linter.all false

section

section ops
variable {P : Program} {L : Nat → Bool} {n : Nat} {K : Ctx} {st : St} {γ : Ghost} {a : Act} {w : World} {o : Oper} {dst : AD}

theorem stripXs_cons {xs : List Operand} {y : AX} {ys : List AX} (h : stripXs L xs = some (y :: ys)) : ∃ x r, xs = x :: r ∧ stripX L x = some y ∧ stripXs L r = some ys := by
  cases xs with
  | nil => simp [stripXs] at h
  | cons x r =>
    simp only [stripXs] at h
    split at h
    · rename_i e1 e2; simp only [Option.some.injEq, List.cons.injEq] at h; obtain ⟨rfl, rfl⟩ := h; exact ⟨x, r, rfl, e1, e2⟩
    · cases h

theorem stripXs_nil {xs : List Operand} (h : stripXs L xs = some []) : xs = [] := by
  cases xs with
  | nil => rfl
  | cons x r => simp only [stripXs] at h; split at h <;> simp at h

theorem stripXs_rel (h : SRel L n K st γ a w) : ∀ {xs : List Operand} {ys : List AX}, stripXs L xs = some ys →
    xs.length = ys.length ∧ ∀ k (h1 : k < ys.length) (h2 : k < xs.length), VRel st.stat γ w (st.val ys[k]) (a.eval xs[k])
  | [], ys, e => by simp [stripXs] at e; subst e; exact ⟨rfl, fun k h => by simp at h⟩
  | x :: r, ys, e => by
    simp only [stripXs] at e
    split at e
    · rename_i e1 e2
      obtain rfl := Option.some.inj e
      obtain ⟨h1, h2⟩ := stripXs_rel h e2
      refine ⟨by simp [h1], fun k hk hk' => ?_⟩
      cases k with
      | zero => exact stripX_rel h e1
      | succ k => exact h2 k (by simpa using hk) (by simpa using hk')
    · cases e

/-- A call of a builtin. -/
theorem run_builtin (c : Call) (b : Builtin) (hop : o.op = .call c) (hc : c.callee = .builtin b) :
    (execOp a.eval o).run P w = (builtin b c.argTypes o.type (c.args.map fun | .const _ => true | _ => false) (c.args.map a.eval)).run P w := by
  obtain ⟨callee, args, ts⟩ := c
  simp only at hc
  subst hc
  simp [execOp, hop, resolve, invoke]
  rfl

theorem slice_len {S : Stats} {v : Value} {s : V} {xs : List V} (h : VRel S γ w s v) (hs : s.elems = some xs) (ha : aliveV S s) : ∃ b c, v = .slice b xs.length c := by
  rcases V.elems_cases hs with ⟨rfl, rfl⟩ | ⟨sz, hs⟩
  · exact ⟨none, 0, h.nils_inv⟩
  · rcases h.slRead hs ha with ⟨⟨_, rfl⟩, rfl⟩ | ⟨_, _, _, _, _, _, _, rfl, _⟩ <;> exact ⟨_, _, rfl⟩

theorem args1 {c : Call} {X : Operand} {t : TypeId} (hargs : c.args.toList = [X]) (hts : c.argTypes.toList = [t]) : c.args = #[X] ∧ c.argTypes = #[t] :=
  ⟨by rw [← Array.toArray_toList (xs := c.args), hargs], by rw [← Array.toArray_toList (xs := c.argTypes), hts]⟩

theorem sound_len (h : SRel L n K st γ a w) (hd : dst.ok L n) {c : Call} {X : Operand} {x : AX} {t e : TypeId} (hop : o.op = .call c) (hc : c.callee = .builtin .len) (hargs : c.args.toList = [X]) (hts : c.argTypes.toList = [t])
    (ht : P.underlying t = some (.slice e)) (hx : stripX L X = some x)
    {d : Nat} {p : Prop} {δ : Delta} (hδ : astep st d (.len x) = some (p, δ)) (hp : p) : Runs P L n K (δ.apply st dst) dst.toOpt o a w := by
  have rx := stripX_rel h hx
  obtain ⟨e1, e2⟩ := args1 hargs hts
  have hr := run_builtin (P := P) (a := a) (w := w) c .len hop hc
  simp only [astep] at hδ
  split at hδ <;> first | (simp only [Option.some.injEq, Prod.mk.injEq] at hδ; obtain ⟨rfl, rfl⟩ := hδ) | cases hδ
  rename_i xs hxs
  obtain ⟨b, cp, ev⟩ := slice_len rx hxs hp
  refine Runs.pure h hd (.base (.int _ _)) ?_
  rw [hr, e1, e2]
  simp [builtin, Builtin.len_, run_underlying ht, ev, goInt]

theorem sound_lenStr (h : SRel L n K st γ a w) (hd : dst.ok L n) {c : Call} {X : Operand} {x : AX} {t : TypeId} (hop : o.op = .call c) (hc : c.callee = .builtin .len) (hargs : c.args.toList = [X]) (hts : c.argTypes.toList = [t])
    (ht : P.underlying t = some .string) (hx : stripX L X = some x)
    {d : Nat} {p : Prop} {δ : Delta} (hδ : astep st d (.lenStr x) = some (p, δ)) (hp : p) : Runs P L n K (δ.apply st dst) dst.toOpt o a w := by
  have rx := stripX_rel h hx
  obtain ⟨e1, e2⟩ := args1 hargs hts
  have hr := run_builtin (P := P) (a := a) (w := w) c .len hop hc
  simp only [astep] at hδ
  split at hδ <;> first | (simp only [Option.some.injEq, Prod.mk.injEq] at hδ; obtain ⟨rfl, rfl⟩ := hδ) | cases hδ
  rename_i l hl
  rw [hl] at rx
  obtain ⟨s, ev, rfl⟩ := rx.str_inv
  refine Runs.pure h hd (.base (.int _ _)) ?_
  rw [hr, e1, e2]
  simp [builtin, Builtin.len_, run_underlying ht, ev, goInt]

theorem sound_lenArr (h : SRel L n K st γ a w) (hd : dst.ok L n) {c : Call} {X : Operand} {t e : TypeId} {m : Nat} (hop : o.op = .call c) (hc : c.callee = .builtin .len) (hargs : c.args.toList = [X]) (hts : c.argTypes.toList = [t])
    (ht : P.underlying t = some (.array m e))
    {d : Nat} {p : Prop} {δ : Delta} (hδ : astep st d (.lenArr m) = some (p, δ)) (hp : p) : Runs P L n K (δ.apply st dst) dst.toOpt o a w := by
  obtain ⟨e1, e2⟩ := args1 hargs hts
  have hr := run_builtin (P := P) (a := a) (w := w) c .len hop hc
  simp only [astep, Option.some.injEq, Prod.mk.injEq] at hδ
  obtain ⟨rfl, rfl⟩ := hδ
  refine Runs.pure h hd (.base (.int _ _)) ?_
  rw [hr, e1, e2]
  simp [builtin, Builtin.len_, run_underlying ht, goInt]

theorem sound_min (h : SRel L n K st γ a w) (hd : dst.ok L n) {c : Call} {X Y : Operand} {x y : AX} (hop : o.op = .call c) (hc : c.callee = .builtin .min) (hargs : c.args.toList = [X, Y])
    (hx : stripX L X = some x) (hy : stripX L Y = some y)
    {d : Nat} {p : Prop} {δ : Delta} (hδ : astep st d (.min x y) = some (p, δ)) (hp : p) : Runs P L n K (δ.apply st dst) dst.toOpt o a w := by
  have rx := stripX_rel h hx
  have ry := stripX_rel h hy
  have e1 : c.args = #[X, Y] := by rw [← Array.toArray_toList (xs := c.args), hargs]
  have hr := run_builtin (P := P) (a := a) (w := w) c .min hop hc
  simp only [astep] at hδ
  split at hδ <;> first | (simp only [Option.some.injEq, Prod.mk.injEq] at hδ; obtain ⟨rfl, rfl⟩ := hδ) | cases hδ
  rename_i k1 n1 k2 n2 h1 h2
  rw [h1] at rx; rw [h2] at ry
  refine Runs.pure h hd (.base (.int _ _)) ?_
  rw [hr, e1]
  simp [builtin, Builtin.min_, rx.int_inv, ry.int_inv, Builtin.min2]

theorem sound_max (h : SRel L n K st γ a w) (hd : dst.ok L n) {c : Call} {X Y : Operand} {x y : AX} (hop : o.op = .call c) (hc : c.callee = .builtin .max) (hargs : c.args.toList = [X, Y])
    (hx : stripX L X = some x) (hy : stripX L Y = some y)
    {d : Nat} {p : Prop} {δ : Delta} (hδ : astep st d (.max x y) = some (p, δ)) (hp : p) : Runs P L n K (δ.apply st dst) dst.toOpt o a w := by
  have rx := stripX_rel h hx
  have ry := stripX_rel h hy
  have e1 : c.args = #[X, Y] := by rw [← Array.toArray_toList (xs := c.args), hargs]
  have hr := run_builtin (P := P) (a := a) (w := w) c .max hop hc
  simp only [astep] at hδ
  split at hδ <;> first | (simp only [Option.some.injEq, Prod.mk.injEq] at hδ; obtain ⟨rfl, rfl⟩ := hδ) | cases hδ
  rename_i k1 n1 k2 n2 h1 h2
  rw [h1] at rx; rw [h2] at ry
  refine Runs.pure h hd (.base (.int _ _)) ?_
  rw [hr, e1]
  simp [builtin, Builtin.max_, rx.int_inv, ry.int_inv, Builtin.max2]

theorem toArray_eval (cap : Array Operand) (f : Operand → Value) : cap.map f = (cap.toList.map f).toArray := by
  rw [← Array.toList_map, Array.toArray_toList]

theorem exec_value {s : Sem Value} {v : Value} {w' : World} (h : s.run P w = .ok v w') : ((do pure (Next.value (← s))) : Sem Next).run P w = .ok (.value v) w' := by
  simp [h]

theorem sound_mkfn (h : SRel L n K st γ a w) (hd : dst.ok L n) {f : FuncId} {first cap : Array Operand} {xs : List AX} (hop : o.op = .makeFunc (.func f) first cap) (hf : first.isEmpty = true) (hx : stripXs L cap.toList = some xs)
    {d : Nat} {p : Prop} {δ : Delta} (hδ : astep st d (.mkfn f xs) = some (p, δ)) (hp : p) : Runs P L n K (δ.apply st dst) dst.toOpt o a w := by
  simp only [astep, Option.some.injEq, Prod.mk.injEq] at hδ
  obtain ⟨rfl, rfl⟩ := hδ
  obtain ⟨h1, h2⟩ := stripXs_rel h hx
  have hf' : first = #[] := by simpa using hf
  subst hf'
  refine Runs.pure h hd (v := .func (.func f) #[] (cap.toList.map a.eval).toArray) (.fn f _ _ (by simp [← h1]) (fun k hk hk' => ?_)) ?_
  · have := h2 k (by simpa using hk) (by simpa using hk')
    simpa using this
  · rw [← toArray_eval]
    simp [execOp, hop, Instr.makeFunc]

/-- The elements and the bytes of a string. -/
theorem sound_idxStr (h : SRel L n K st γ a w) (hd : dst.ok L n) {t : TypeId} {X I : Operand} {x i : AX} (hop : o.op = .index t X I) (ht : P.underlying t = some .string) (hx : stripX L X = some x) (hi : stripX L I = some i)
    {d : Nat} {p : Prop} {δ : Delta} (hδ : astep st d (.idxStr x i) = some (p, δ)) (hp : p) : Runs P L n K (δ.apply st dst) dst.toOpt o a w := by
  have rx := stripX_rel h hx
  have ri := stripX_rel h hi
  simp only [astep] at hδ
  split at hδ <;> first | (simp only [Option.some.injEq, Prod.mk.injEq] at hδ; obtain ⟨rfl, rfl⟩ := hδ) | cases hδ
  rename_i l k m h1 h2
  rw [h1] at rx; rw [h2] at ri
  obtain ⟨s, ev, rfl⟩ := rx.str_inv
  have hlen : s.data.toList.length = s.size := by simp
  rw [hlen] at hp
  refine Runs.pure h hd (.base (.int _ _)) ?_
  have := run_index_string (P := P) w t s k m ht
  rw [dif_pos hp] at this
  have e : s.data.toList.getD m.toNat 0 = s[m.toNat]'(by omega) := by
    rw [List.getD_eq_getElem?_getD, List.getElem?_eq_getElem (by rw [hlen]; omega)]
    rfl
  rw [show execOp a.eval o = (do pure (Next.value (← Instr.index t (a.eval X) (a.eval I)))) from by simp only [execOp, hop]]
  rw [e]
  exact exec_value (by rw [ev, ri.int_inv]; exact this)

theorem ext_str (s : ByteArray) (x y : Nat) : (s.extract x y).data.toList = (s.data.toList.take y).drop x := by
  rw [ByteArray.data_extract, Array.toList_extract]
  simp [List.extract, List.drop_take]

theorem boundO_rel (h : SRel L n K st γ a w) {X : Option Operand} {x : Option AX} (hx : stripXO L X = some x) {d : Nat} {m : Int} (hm : boundO st d x = some m) :
    (X = none ∧ m = d) ∨ ∃ Y k, X = some Y ∧ a.eval Y = .int k m := by
  cases X with
  | none => simp [stripXO] at hx; subst hx; simp [boundO] at hm; exact .inl ⟨rfl, hm.symm⟩
  | some Y =>
    simp only [stripXO] at hx
    split at hx
    · rename_i y hy
      obtain rfl := Option.some.inj hx
      have ry := stripX_rel h hy
      simp only [boundO] at hm
      split at hm
      · rename_i k m' e
        rw [e] at ry
        obtain rfl := Option.some.inj hm
        exact .inr ⟨Y, k, rfl, ry.int_inv⟩
      · cases hm
    · cases hx

theorem run_bounds (h : SRel L n K st γ a w) {lo hi : Option Operand} {lo' hi' : Option AX} (hlo : stripXO L lo = some lo') (hhi : stripXO L hi = some hi') {len cap : Nat} {x y : Int}
    (h1 : boundO st 0 lo' = some x) (h2 : boundO st len hi' = some y) (hx : 0 ≤ x) (hxy : x ≤ y) (hy : y ≤ len) (hc : len ≤ cap) (isSlice : Bool) :
    (Instr.sliceBounds isSlice len cap (lo.map a.eval) (hi.map a.eval) none).run P w = .ok (x.toNat, y.toNat, cap) w := by
  rcases boundO_rel h hlo h1 with ⟨rfl, rfl⟩ | ⟨Y, k, rfl, ek⟩ <;> rcases boundO_rel h hhi h2 with ⟨rfl, rfl⟩ | ⟨Y', k', rfl, ek'⟩
  · simp [Instr.sliceBounds]
  · have q : 0 ≤ y ∧ y ≤ (cap : Int) := by omega
    simp [Instr.sliceBounds, Instr.sliceBound, ek', asIntOf, q]
  · have q : 0 ≤ x ∧ x ≤ (len : Int) := by omega
    simp [Instr.sliceBounds, Instr.sliceBound, ek, asIntOf, q]
  · have q : 0 ≤ y ∧ y ≤ (cap : Int) := by omega
    have q2 : 0 ≤ x ∧ x ≤ ((y.toNat : Nat) : Int) := by omega
    simp [Instr.sliceBounds, Instr.sliceBound, ek, ek', asIntOf, q, q2]
    omega

theorem sound_cutStr (h : SRel L n K st γ a w) (hd : dst.ok L n) {t : TypeId} {X : Operand} {lo hi : Option Operand} {lo' hi' : Option AX} {x : AX} (hop : o.op = .slice t X lo hi none) (ht : P.underlying t = some .string)
    (hx : stripX L X = some x) (hlo : stripXO L lo = some lo') (hhi : stripXO L hi = some hi')
    {d : Nat} {p : Prop} {δ : Delta} (hδ : astep st d (.cutStr x lo' hi') = some (p, δ)) (hp : p) : Runs P L n K (δ.apply st dst) dst.toOpt o a w := by
  have rx := stripX_rel h hx
  simp only [astep] at hδ
  split at hδ <;> try (cases hδ; done)
  rename_i l hl
  split at hδ <;> first | (simp only [Option.some.injEq, Prod.mk.injEq] at hδ; obtain ⟨rfl, rfl⟩ := hδ) | cases hδ
  rename_i x1 y1 h1 h2
  rw [hl] at rx
  obtain ⟨s, ev, rfl⟩ := rx.str_inv
  have hlen : s.data.toList.length = s.size := by simp
  rw [hlen] at h2 hp
  have hb := run_bounds (P := P) h hlo hhi h1 h2 hp.1 hp.2.1 hp.2.2 (Nat.le_refl _) false
  refine Runs.pure h hd (v := .string (s.extract x1.toNat y1.toNat)) (.base (.str _ _ (ext_str _ _ _))) ?_
  rw [show execOp a.eval o = (do pure (Next.value (← Instr.sliceAt t (a.eval X) (lo.map a.eval) (hi.map a.eval) none))) from by simp only [execOp, hop]; rfl]
  refine exec_value ?_
  simp [Instr.sliceAt, run_underlying ht, Instr.slice, ev, hb]

end ops
end

section

theorem flat_cons (x : V) (xs : List V) : flat (x :: xs) = x.cells ++ flat xs := by simp [flat]

theorem flat_append (xs ys : List V) : flat (xs ++ ys) = flat xs ++ flat ys := by simp [flat]

theorem flat_take {sz : Nat} : ∀ {xs : List V} (k : Nat), (∀ x ∈ xs, x.cells.length = sz) → flat (xs.take k) = (flat xs).take (k * sz)
  | [], k, h => by simp [flat]
  | x :: r, 0, h => by simp [flat]
  | x :: r, k + 1, h => by
    have h1 := h x List.mem_cons_self
    have h2 := flat_take (xs := r) k fun y hy => h y (List.mem_cons_of_mem _ hy)
    rw [List.take_succ_cons, flat_cons, flat_cons, h2, List.take_append, List.take_of_length_le (l := x.cells) (by rw [h1, Nat.add_mul]; omega), h1]
    congr 2
    rw [Nat.add_mul, Nat.one_mul, Nat.add_sub_cancel]

theorem flat_drop {sz : Nat} : ∀ {xs : List V} (k : Nat), (∀ x ∈ xs, x.cells.length = sz) → flat (xs.drop k) = (flat xs).drop (k * sz)
  | [], k, h => by simp [flat]
  | x :: r, 0, h => by simp
  | x :: r, k + 1, h => by
    have h1 := h x List.mem_cons_self
    have h2 := flat_drop (xs := r) k fun y hy => h y (List.mem_cons_of_mem _ hy)
    rw [List.drop_succ_cons, flat_cons, h2, List.drop_append, List.drop_of_length_le (l := x.cells) (by rw [h1, Nat.add_mul]; omega), List.nil_append, h1]
    congr 1
    rw [Nat.add_mul, Nat.one_mul, Nat.add_sub_cancel]

/-- The cells of a part of a slice. -/
theorem cutCont {O : Nat → Prop} {w : World} {c : Array Value} {off : Nat} {us : List Value} {xs : List V} {sz : Nat} (hsz : ∀ x ∈ xs, x.cells.length = sz) (hlen : us.length = (flat xs).length)
    (hus : ∀ k, k < us.length → c[off + k]? = us[k]?) (h1 : ∀ u ∈ us, u.oneCell' = true) (hel : ∀ k (h : k < (flat xs).length) (h' : k < us.length), PRel O w ((flat xs)[k]) (us[k]))
    (lo hi : Nat) (hle : lo ≤ hi) (hhi : hi ≤ xs.length) :
    (∀ x ∈ (xs.take hi).drop lo, x.cells.length = sz) ∧ ((us.take (hi * sz)).drop (lo * sz)).length = (flat ((xs.take hi).drop lo)).length ∧
    (∀ k, k < ((us.take (hi * sz)).drop (lo * sz)).length → c[off + lo * sz + k]? = ((us.take (hi * sz)).drop (lo * sz))[k]?) ∧
    (∀ u ∈ (us.take (hi * sz)).drop (lo * sz), u.oneCell' = true) ∧
    (∀ k (h : k < (flat ((xs.take hi).drop lo)).length) (h' : k < ((us.take (hi * sz)).drop (lo * sz)).length), PRel O w ((flat ((xs.take hi).drop lo))[k]) (((us.take (hi * sz)).drop (lo * sz))[k])) := by
  have hs1 : ∀ x ∈ xs.take hi, x.cells.length = sz := fun x hx => hsz x (List.mem_of_mem_take hx)
  have hf : flat ((xs.take hi).drop lo) = ((flat xs).take (hi * sz)).drop (lo * sz) := by rw [flat_drop lo hs1, flat_take hi hsz]
  have hl := length_flat hsz
  refine ⟨fun x hx => hs1 x (List.mem_of_mem_drop hx), ?_, ?_, fun u hu => h1 u (List.mem_of_mem_take (List.mem_of_mem_drop hu)), ?_⟩
  · rw [hf]; simp [hlen]
  · intro k hk
    simp only [List.length_drop, List.length_take] at hk
    rw [Nat.add_assoc, hus _ (by omega), List.getElem?_drop, List.getElem?_take, if_pos (by omega)]
  · intro k hk hk'
    simp only [hf, List.getElem_drop, List.getElem_take]
    exact hel _ _ _

theorem addr_add (g off m : Nat) : (⟨g, off, none⟩ : Addr).add m = ⟨g, off + m, none⟩ := by
  unfold Addr.add; split <;> simp_all

section ops
variable {P : Program} {L : Nat → Bool} {n : Nat} {K : Ctx} {st : St} {γ : Ghost} {a : Act} {w : World} {o : Oper} {dst : AD}

theorem run_sizeT {t : TypeId} {s : Nat} (hs : sizeT P t = some s) (w : World) : (sizeOf t).run P w = .ok s w := by
  unfold sizeT at hs
  cases hi : P.info? t with
  | none => simp [hi] at hs
  | some i => simp [hi] at hs; simp [sizeOf, typeInfo, hi, hs]

theorem run_aggT {t : TypeId} {b : Bool} (hs : aggT P t = some b) (w : World) : (isAgg t).run P w = .ok b w := by
  unfold aggT at hs
  split at hs <;> first | (obtain rfl := Option.some.inj hs) | cases hs
  · simp [isAgg, run_underlying ‹_›]
  · simp [isAgg, run_underlying ‹_›]
  · rename_i d h1 h2 hu
    simp only [isAgg, Sem.run_bind, run_underlying hu, Result.andThen]
    rfl

/-- A cut, of a slice that may be read. -/
theorem run_cut {S : Stats} {e t : TypeId} (ht : P.underlying t = some (.slice e)) {sz : Nat} (hs : sizeT P e = some sz) {b : Option Addr} {len cap : Nat} {lo hi : Option Value} {x y : Nat}
    (hb : (Instr.sliceBounds true len cap lo hi none).run P w = .ok (x, y, cap) w) :
    (Instr.sliceAt t (.slice b len cap) lo hi none).run P w = .ok (.slice (if cap = x then b else b.map (·.add (x * sz))) (y - x) (cap - x)) w := by
  simp [Instr.sliceAt, run_underlying ht, Instr.slice, hb, run_sizeT hs]

theorem cut_own {γ : Ghost} {w : World} {σ top sz : Nat} {pre : Bool} {xs : List V} {b : Option Addr} {len cap : Nat} (h : OwnSl γ w σ top sz pre xs (.slice b len cap)) {lo hi : Nat} (hle : lo ≤ hi) (hhi : hi ≤ xs.length)
    (pre' : Bool) (hp : pre' = true → pre = true ∧ lo = 0) :
    OwnSl γ w σ top sz pre' ((xs.take hi).drop lo) (.slice (if cap = lo then b else b.map (·.add (lo * sz))) (hi - lo) (cap - lo)) := by
  rcases h with ⟨e, rfl⟩ | ⟨g, off, cap', c, e, fr, us, ev, hg, hcap, hmax, hsz, hlen, hus, h1, hel, hown⟩
  · cases e
    simp only [List.length_nil, Nat.le_zero_eq] at hhi
    subst hhi
    simp only [Nat.le_zero_eq] at hle
    subst hle
    exact .inl ⟨by simp, by simp⟩
  · cases ev
    obtain ⟨a1, a2, a3, a4, a5⟩ := cutCont hsz hlen hus h1 hel lo hi hle hhi
    have hl : ((xs.take hi).drop lo).length = hi - lo := by simp; omega
    by_cases hc : cap = lo
    · have hh : hi = lo := by omega
      subst hc
      subst hh
      have hx0 : (xs.take hi).drop hi = [] := List.drop_of_length_le (by simp; omega)
      rw [if_pos rfl, hx0]
      refine .inr ⟨g, off, 0, c, e, fr, [], by simp, hg, by simp, by simp, by simp, by simp [flat], by simp, by simp, by simp, ?_⟩
      rcases hown with ⟨q1, q2, q3⟩ | ⟨q1, q2⟩
      · refine .inl ⟨q1, by simp; exact Nat.le_trans (Nat.le_add_right _ _) q2, fun hq => ?_⟩
        obtain ⟨r1, r2⟩ := hp hq
        obtain ⟨s1, s2, s3, s4⟩ := q3 r1
        subst r2
        exact ⟨s1, s2, s3, by simp⟩
      · refine .inr ⟨q1, fun hq => ?_⟩
        obtain ⟨r1, r2⟩ := hp hq
        obtain ⟨s1, s2⟩ := q2 r1
        exact ⟨s1, by simp; omega⟩
    · rw [if_neg hc]
      refine .inr ⟨g, off + lo * sz, cap - lo, c, e, fr, _, by simp [addr_add, hl], hg, by omega, by omega, a1, a2, a3, a4, a5, ?_⟩
      rw [hl]
      rcases hown with ⟨q1, q2, q3⟩ | ⟨q1, q2⟩
      · refine .inl ⟨q1, ?_, fun hq => ?_⟩
        · have : lo * sz + (hi - lo) * sz ≤ xs.length * sz := by rw [← Nat.add_mul]; exact Nat.mul_le_mul_right _ (by omega)
          omega
        · obtain ⟨r1, r2⟩ := hp hq
          obtain ⟨s1, s2, s3, s4⟩ := q3 r1
          subst r2
          exact ⟨by omega, s2, by simpa using s3, by omega⟩
      · refine .inr ⟨q1, fun hq => ?_⟩
        obtain ⟨r1, r2⟩ := hp hq
        obtain ⟨s1, s2⟩ := q2 r1
        subst r2
        exact ⟨by omega, by omega⟩

theorem cut_pure {O : Nat → Prop} {w : World} {sz : Nat} {xs : List V} {b : Option Addr} {len cap : Nat} (h : PRel O w (.sl none sz xs) (.slice b len cap)) {lo hi : Nat} (hle : lo ≤ hi) (hhi : hi ≤ xs.length) :
    PRel O w (.sl none sz ((xs.take hi).drop lo)) (.slice (if cap = lo then b else b.map (·.add (lo * sz))) (hi - lo) (cap - lo)) := by
  cases h with
  | slnil =>
    simp only [List.length_nil, Nat.le_zero_eq] at hhi
    subst hhi
    simp only [Nat.le_zero_eq] at hle
    subst hle
    simpa using PRel.slnil sz _
  | sl sz xs g off cap c e fr us hg hO hcap hmax hsz hlen hus h1 hel =>
    obtain ⟨a1, a2, a3, a4, a5⟩ := cutCont hsz hlen hus h1 hel lo hi hle hhi
    have hl : ((xs.take hi).drop lo).length = hi - lo := by simp; omega
    by_cases hc : cap = lo
    · have hh : hi = lo := by omega
      subst hc
      subst hh
      have hx0 : (xs.take hi).drop hi = [] := List.drop_of_length_le (by simp; omega)
      rw [if_pos rfl, hx0]
      have := PRel.sl (O := O) (w := w) sz [] g off 0 c e fr [] hg hO (by simp) (by simp) (by simp) (by simp [flat]) (by simp) (by simp) (by simp)
      simpa using this
    · rw [if_neg hc]
      have := PRel.sl (O := O) (w := w) sz _ g (off + lo * sz) (cap - lo) c e fr _ hg hO (by rw [hl]; omega) (by omega) a1 a2 a3 a4 a5
      rw [hl] at this
      simpa [addr_add] using this

theorem sound_cutSl (h : SRel L n K st γ a w) (hd : dst.ok L n) {t e : TypeId} {sz : Nat} {X : Operand} {lo hi : Option Operand} {lo' hi' : Option AX} {x : AX} (hop : o.op = .slice t X lo hi none) (ht : P.underlying t = some (.slice e)) (hs : sizeT P e = some sz)
    (hx : stripX L X = some x) (hlo : stripXO L lo = some lo') (hhi : stripXO L hi = some hi')
    {d : Nat} {p : Prop} {δ : Delta} (hδ : astep st d (.cutSl sz x lo' hi') = some (p, δ)) (hp : p) : Runs P L n K (δ.apply st dst) dst.toOpt o a w := by
  have rx := stripX_rel h hx
  have hex : execOp a.eval o = (do pure (Next.value (← Instr.sliceAt t (a.eval X) (lo.map a.eval) (hi.map a.eval) none))) := by simp only [execOp, hop]; rfl
  simp only [astep] at hδ
  split at hδ <;> try (cases hδ; done)
  · rename_i σ sz' xs hl
    rw [hl] at rx
    split at hδ <;> first | (simp only [Option.some.injEq, Prod.mk.injEq] at hδ; obtain ⟨rfl, rfl⟩ := hδ) | cases hδ
    rename_i x1 y1 h1 h2
    obtain ⟨rfl, hal, p1, p2, p3⟩ := hp
    obtain ⟨b, cp, ev⟩ := slice_len rx rfl hal
    rw [ev] at rx
    have hcp : xs.length ≤ cp := by
      rcases rx.slRead (sz := sz) (xs := xs) (by cases σ <;> simp) hal with ⟨⟨_, e1⟩, e2⟩ | ⟨_, _, _, _, _, _, _, e1, _, e2, _⟩
      · subst e2; simp
      · cases e1; exact e2
    have hb := run_bounds (P := P) h hlo hhi h1 h2 p1 p2 p3 hcp true
    have hr := run_cut (S := st.stat) ht hs (b := b) hb
    have hle : x1.toNat ≤ y1.toNat := by omega
    have hhi' : y1.toNat ≤ xs.length := by omega
    refine Runs.pure h hd (v := .slice (if cp = x1.toNat then b else b.map (·.add (x1.toNat * sz))) (y1.toNat - x1.toNat) (cp - x1.toNat)) ?_ (by rw [hex]; exact exec_value (by rw [ev]; exact hr))
    cases σ with
    | none => cases rx with | base rx => exact .base (cut_pure rx hle hhi')
    | some s =>
      cases lo' with
      | none =>
        simp only [boundO, Option.some.injEq] at h1
        subst h1
        cases rx with
        | base rx => cases rx
        | @own _ top _ _ _ hs' rx =>
          have ho := cut_own rx (Nat.zero_le _) hhi' true (fun _ => ⟨rfl, rfl⟩)
          simp only [hs']
          by_cases htop : xs.length = top
          · rw [if_pos htop]
            refine .vown hs' (by have := cut_own rx (Nat.zero_le _) hhi' false (fun q => by cases q); simpa using this) (fun u q => by cases q; exact Nat.le_refl _) (fun _ => ?_)
            have hlt : (xs.take y1.toNat).length = y1.toNat := by simp; omega
            rcases rx with ⟨q1, q2⟩ | ⟨g, off, cap, c, e, fr, us, ev2, hg, hcap, hmax, hsz, hlen, hus, h1c, hel, hown⟩
            · subst q2
              have hy0 : y1.toNat = 0 := Nat.le_zero.1 hhi'
              injection q1 with q1 q3 q4
              subst q1
              subst q4
              exact .inl ⟨by simp [hy0], by simp⟩
            · cases ev2
              rcases hown with ⟨r1, r2, r3⟩ | ⟨r1, r2⟩
              · obtain ⟨s1, s2, s3, s4⟩ := r3 rfl
                subst s1
                subst s2
                by_cases hc : cp = 0
                · have hx0 : xs = [] := List.eq_nil_of_length_eq_zero (by omega)
                  subst hx0
                  have hy0 : y1.toNat = 0 := Nat.le_zero.1 hhi'
                  refine .inr ⟨g, cp, c, e, ?_, hg, r1, s3, by simp, by simp, hmax⟩
                  simp [hc, hy0, Addr.add]
                · refine .inr ⟨g, cp, c, e, ?_, hg, r1, s3, by omega, by omega, hmax⟩
                  simp [hlt, Addr.add]
              · have := (r2 rfl).2; omega
          · rw [if_neg htop]; exact .own hs' (by simpa using ho)
        | imm hs' rx => simp only [hs']; exact .imm hs' (by have := cut_pure rx (Nat.zero_le _) hhi'; simpa using this)
        | dead hs' _ => simp [aliveV, alive, hs'] at hal
      | some q =>
        cases rx with
        | base rx => cases rx
        | own hs' rx => exact .vown hs' (cut_own rx hle hhi' false (fun q => by cases q)) (fun u q => by cases q) (fun q => by cases q)
        | imm hs' rx => exact .vimm hs' (cut_pure rx hle hhi')
        | dead hs' _ => simp [aliveV, alive, hs'] at hal
  · rename_i σ tt sz' xs hl
    rw [hl] at rx
    split at hδ <;> first | (simp only [Option.some.injEq, Prod.mk.injEq] at hδ; obtain ⟨rfl, rfl⟩ := hδ) | cases hδ
    rename_i x1 y1 h1 h2
    obtain ⟨rfl, hal, p1, p2, p3⟩ := hp
    obtain ⟨b, cp, ev⟩ := slice_len rx rfl hal
    rw [ev] at rx
    have hcp : xs.length ≤ cp := by
      rcases rx.slRead (sz := sz) (xs := xs) (by simp) hal with ⟨⟨_, e1⟩, e2⟩ | ⟨_, _, _, _, _, _, _, e1, _, e2, _⟩
      · subst e2; simp
      · cases e1; exact e2
    have hb := run_bounds (P := P) h hlo hhi h1 h2 p1 p2 p3 hcp true
    have hr := run_cut (S := st.stat) ht hs (b := b) hb
    have hle : x1.toNat ≤ y1.toNat := by omega
    have hhi' : y1.toNat ≤ xs.length := by omega
    refine Runs.pure h hd (v := .slice (if cp = x1.toNat then b else b.map (·.add (x1.toNat * sz))) (y1.toNat - x1.toNat) (cp - x1.toNat)) ?_ (by rw [hex]; exact exec_value (by rw [ev]; exact hr))
    cases rx with
    | base rx => cases rx
    | vown hs' rx _ _ => exact .vown hs' (cut_own rx hle hhi' false (fun q => by cases q)) (fun u q => by cases q) (fun q => by cases q)
    | vimm hs' rx => exact .vimm hs' (cut_pure rx hle hhi')
    | vdead hs' _ => simp [aliveV, alive, hs'] at hal
  · rename_i hl
    rw [hl] at rx
    split at hδ <;> first | (simp only [Option.some.injEq, Prod.mk.injEq] at hδ; obtain ⟨rfl, rfl⟩ := hδ) | cases hδ
    rename_i x1 y1 h1 h2
    obtain ⟨rfl, rfl⟩ := hp
    have ev := rx.nils_inv
    have hb := run_bounds (P := P) (len := 0) (cap := 0) h hlo hhi h1 h2 (by omega) (by omega) (by omega) (by omega) true
    have hr := run_cut (S := st.stat) ht hs (b := none) hb
    exact Runs.pure h hd (.base .nils) (by rw [hex]; exact exec_value (by rw [ev]; simpa using hr))

end ops
end

end Go.Proofs.YtnhhcfbigjpfeaaDoor
