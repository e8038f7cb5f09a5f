/-
  The operations that only compute, continued: lengths, cuts, indexes, parts.
-/
import Derived.Test.YtpiafiapjmldgaaSound2
namespace Go.Proofs.Ytpiafiapjmldgaa
set_option linter.all false

section ops
variable {P : Program} {L : Nat → Bool} {n : Nat} {K : Ctx} {st : St} {γ : Ghost} {a : Act} {w : World} {o : Oper} {dst : AD}

theorem stripXs_cons {xs : List Operand} {y : AX} {ys : List AX} (h : stripXs L xs = some (y :: ys)) : ∃ x r, xs = x :: r ∧ stripX L x = some y ∧ stripXs L r = some ys := by
  cases xs with
  | nil => simp [stripXs] at h
  | cons x r =>
    simp only [stripXs] at h
    split at h
    · rename_i e1 e2; simp only [Option.some.injEq, List.cons.injEq] at h; obtain ⟨rfl, rfl⟩ := h; exact ⟨x, r, rfl, e1, e2⟩
    · cases h

theorem stripXs_nil {xs : List Operand} (h : stripXs L xs = some []) : xs = [] := by
  cases xs with
  | nil => rfl
  | cons x r => simp only [stripXs] at h; split at h <;> simp at h

theorem stripXs_rel (h : SRel L n K st γ a w) : ∀ {xs : List Operand} {ys : List AX}, stripXs L xs = some ys →
    xs.length = ys.length ∧ ∀ k (h1 : k < ys.length) (h2 : k < xs.length), VRel st.stat γ w (st.val ys[k]) (a.eval xs[k])
  | [], ys, e => by simp [stripXs] at e; subst e; exact ⟨rfl, fun k h => by simp at h⟩
  | x :: r, ys, e => by
    simp only [stripXs] at e
    split at e
    · rename_i e1 e2
      obtain rfl := Option.some.inj e
      obtain ⟨h1, h2⟩ := stripXs_rel h e2
      refine ⟨by simp [h1], fun k hk hk' => ?_⟩
      cases k with
      | zero => exact stripX_rel h e1
      | succ k => exact h2 k (by simpa using hk) (by simpa using hk')
    · cases e

/-- A call of a builtin. -/
theorem run_builtin (c : Call) (b : Builtin) (hop : o.op = .call c) (hc : c.callee = .builtin b) :
    (execOp a.eval o).run P w = (builtin b c.argTypes o.type (c.args.map fun | .const _ => true | _ => false) (c.args.map a.eval)).run P w := by
  obtain ⟨callee, args, ts⟩ := c
  simp only at hc
  subst hc
  simp [execOp, hop, resolve, invoke]
  rfl

theorem slice_len {S : Stats} {v : Value} {s : V} {xs : List V} (h : VRel S γ w s v) (hs : s.elems = some xs) (ha : aliveV S s) : ∃ b c, v = .slice b xs.length c := by
  rcases V.elems_cases hs with ⟨rfl, rfl⟩ | ⟨sz, hs⟩
  · exact ⟨none, 0, h.nils_inv⟩
  · rcases h.slRead hs ha with ⟨rfl, rfl⟩ | ⟨_, _, _, _, _, _, _, rfl, _⟩ <;> exact ⟨_, _, rfl⟩

theorem args1 {c : Call} {X : Operand} {t : TypeId} (hargs : c.args.toList = [X]) (hts : c.argTypes.toList = [t]) : c.args = #[X] ∧ c.argTypes = #[t] :=
  ⟨by rw [← Array.toArray_toList (xs := c.args), hargs], by rw [← Array.toArray_toList (xs := c.argTypes), hts]⟩

theorem sound_len (h : SRel L n K st γ a w) (hd : dst.ok L n) {c : Call} {X : Operand} {x : AX} {t e : TypeId} (hop : o.op = .call c) (hc : c.callee = .builtin .len) (hargs : c.args.toList = [X]) (hts : c.argTypes.toList = [t])
    (ht : P.underlying t = some (.slice e)) (hx : stripX L X = some x)
    {d : Nat} {p : Prop} {δ : Delta} (hδ : astep st d (.len x) = some (p, δ)) (hp : p) : Runs P L n K (δ.apply st dst) dst.toOpt o a w := by
  have rx := stripX_rel h hx
  obtain ⟨e1, e2⟩ := args1 hargs hts
  have hr := run_builtin (P := P) (a := a) (w := w) c .len hop hc
  simp only [astep] at hδ
  split at hδ <;> first | (simp only [Option.some.injEq, Prod.mk.injEq] at hδ; obtain ⟨rfl, rfl⟩ := hδ) | cases hδ
  rename_i xs hxs
  obtain ⟨b, cp, ev⟩ := slice_len rx hxs hp
  refine Runs.pure h hd (.base (.int _ _)) ?_
  rw [hr, e1, e2]
  simp [builtin, Builtin.len_, run_underlying ht, ev, goInt]

theorem sound_lenStr (h : SRel L n K st γ a w) (hd : dst.ok L n) {c : Call} {X : Operand} {x : AX} {t : TypeId} (hop : o.op = .call c) (hc : c.callee = .builtin .len) (hargs : c.args.toList = [X]) (hts : c.argTypes.toList = [t])
    (ht : P.underlying t = some .string) (hx : stripX L X = some x)
    {d : Nat} {p : Prop} {δ : Delta} (hδ : astep st d (.lenStr x) = some (p, δ)) (hp : p) : Runs P L n K (δ.apply st dst) dst.toOpt o a w := by
  have rx := stripX_rel h hx
  obtain ⟨e1, e2⟩ := args1 hargs hts
  have hr := run_builtin (P := P) (a := a) (w := w) c .len hop hc
  simp only [astep] at hδ
  split at hδ <;> first | (simp only [Option.some.injEq, Prod.mk.injEq] at hδ; obtain ⟨rfl, rfl⟩ := hδ) | cases hδ
  rename_i l hl
  rw [hl] at rx
  obtain ⟨s, ev, rfl⟩ := rx.str_inv
  refine Runs.pure h hd (.base (.int _ _)) ?_
  rw [hr, e1, e2]
  simp [builtin, Builtin.len_, run_underlying ht, ev, goInt]

theorem sound_lenArr (h : SRel L n K st γ a w) (hd : dst.ok L n) {c : Call} {X : Operand} {t e : TypeId} {m : Nat} (hop : o.op = .call c) (hc : c.callee = .builtin .len) (hargs : c.args.toList = [X]) (hts : c.argTypes.toList = [t])
    (ht : P.underlying t = some (.array m e))
    {d : Nat} {p : Prop} {δ : Delta} (hδ : astep st d (.lenArr m) = some (p, δ)) (hp : p) : Runs P L n K (δ.apply st dst) dst.toOpt o a w := by
  obtain ⟨e1, e2⟩ := args1 hargs hts
  have hr := run_builtin (P := P) (a := a) (w := w) c .len hop hc
  simp only [astep, Option.some.injEq, Prod.mk.injEq] at hδ
  obtain ⟨rfl, rfl⟩ := hδ
  refine Runs.pure h hd (.base (.int _ _)) ?_
  rw [hr, e1, e2]
  simp [builtin, Builtin.len_, run_underlying ht, goInt]

theorem sound_min (h : SRel L n K st γ a w) (hd : dst.ok L n) {c : Call} {X Y : Operand} {x y : AX} (hop : o.op = .call c) (hc : c.callee = .builtin .min) (hargs : c.args.toList = [X, Y])
    (hx : stripX L X = some x) (hy : stripX L Y = some y)
    {d : Nat} {p : Prop} {δ : Delta} (hδ : astep st d (.min x y) = some (p, δ)) (hp : p) : Runs P L n K (δ.apply st dst) dst.toOpt o a w := by
  have rx := stripX_rel h hx
  have ry := stripX_rel h hy
  have e1 : c.args = #[X, Y] := by rw [← Array.toArray_toList (xs := c.args), hargs]
  have hr := run_builtin (P := P) (a := a) (w := w) c .min hop hc
  simp only [astep] at hδ
  split at hδ <;> first | (simp only [Option.some.injEq, Prod.mk.injEq] at hδ; obtain ⟨rfl, rfl⟩ := hδ) | cases hδ
  rename_i k1 n1 k2 n2 h1 h2
  rw [h1] at rx; rw [h2] at ry
  refine Runs.pure h hd (.base (.int _ _)) ?_
  rw [hr, e1]
  simp [builtin, Builtin.min_, rx.int_inv, ry.int_inv, Builtin.min2]

theorem sound_max (h : SRel L n K st γ a w) (hd : dst.ok L n) {c : Call} {X Y : Operand} {x y : AX} (hop : o.op = .call c) (hc : c.callee = .builtin .max) (hargs : c.args.toList = [X, Y])
    (hx : stripX L X = some x) (hy : stripX L Y = some y)
    {d : Nat} {p : Prop} {δ : Delta} (hδ : astep st d (.max x y) = some (p, δ)) (hp : p) : Runs P L n K (δ.apply st dst) dst.toOpt o a w := by
  have rx := stripX_rel h hx
  have ry := stripX_rel h hy
  have e1 : c.args = #[X, Y] := by rw [← Array.toArray_toList (xs := c.args), hargs]
  have hr := run_builtin (P := P) (a := a) (w := w) c .max hop hc
  simp only [astep] at hδ
  split at hδ <;> first | (simp only [Option.some.injEq, Prod.mk.injEq] at hδ; obtain ⟨rfl, rfl⟩ := hδ) | cases hδ
  rename_i k1 n1 k2 n2 h1 h2
  rw [h1] at rx; rw [h2] at ry
  refine Runs.pure h hd (.base (.int _ _)) ?_
  rw [hr, e1]
  simp [builtin, Builtin.max_, rx.int_inv, ry.int_inv, Builtin.max2]

theorem toArray_eval (cap : Array Operand) (f : Operand → Value) : cap.map f = (cap.toList.map f).toArray := by
  rw [← Array.toList_map, Array.toArray_toList]

theorem exec_value {s : Sem Value} {v : Value} {w' : World} (h : s.run P w = .ok v w') : ((do pure (Next.value (← s))) : Sem Next).run P w = .ok (.value v) w' := by
  simp [h]

theorem sound_mkfn (h : SRel L n K st γ a w) (hd : dst.ok L n) {f : FuncId} {first cap : Array Operand} {xs : List AX} (hop : o.op = .makeFunc (.func f) first cap) (hf : first.isEmpty = true) (hx : stripXs L cap.toList = some xs)
    {d : Nat} {p : Prop} {δ : Delta} (hδ : astep st d (.mkfn f xs) = some (p, δ)) (hp : p) : Runs P L n K (δ.apply st dst) dst.toOpt o a w := by
  simp only [astep, Option.some.injEq, Prod.mk.injEq] at hδ
  obtain ⟨rfl, rfl⟩ := hδ
  obtain ⟨h1, h2⟩ := stripXs_rel h hx
  have hf' : first = #[] := by simpa using hf
  subst hf'
  refine Runs.pure h hd (v := .func (.func f) #[] (cap.toList.map a.eval).toArray) (.fn f _ _ (by simp [← h1]) (fun k hk hk' => ?_)) ?_
  · have := h2 k (by simpa using hk) (by simpa using hk')
    simpa using this
  · rw [← toArray_eval]
    simp [execOp, hop, Instr.makeFunc]

/-- The elements and the bytes of a string. -/
theorem sound_idxStr (h : SRel L n K st γ a w) (hd : dst.ok L n) {t : TypeId} {X I : Operand} {x i : AX} (hop : o.op = .index t X I) (ht : P.underlying t = some .string) (hx : stripX L X = some x) (hi : stripX L I = some i)
    {d : Nat} {p : Prop} {δ : Delta} (hδ : astep st d (.idxStr x i) = some (p, δ)) (hp : p) : Runs P L n K (δ.apply st dst) dst.toOpt o a w := by
  have rx := stripX_rel h hx
  have ri := stripX_rel h hi
  simp only [astep] at hδ
  split at hδ <;> first | (simp only [Option.some.injEq, Prod.mk.injEq] at hδ; obtain ⟨rfl, rfl⟩ := hδ) | cases hδ
  rename_i l k m h1 h2
  rw [h1] at rx; rw [h2] at ri
  obtain ⟨s, ev, rfl⟩ := rx.str_inv
  have hlen : s.data.toList.length = s.size := by simp
  rw [hlen] at hp
  refine Runs.pure h hd (.base (.int _ _)) ?_
  have := run_index_string (P := P) w t s k m ht
  rw [dif_pos hp] at this
  have e : s.data.toList.getD m.toNat 0 = s[m.toNat]'(by omega) := by
    rw [List.getD_eq_getElem?_getD, List.getElem?_eq_getElem (by rw [hlen]; omega)]
    rfl
  rw [show execOp a.eval o = (do pure (Next.value (← Instr.index t (a.eval X) (a.eval I)))) from by simp only [execOp, hop]]
  rw [e]
  exact exec_value (by rw [ev, ri.int_inv]; exact this)

theorem ext_str (s : ByteArray) (x y : Nat) : (s.extract x y).data.toList = (s.data.toList.take y).drop x := by
  rw [ByteArray.data_extract, Array.toList_extract]
  simp [List.extract, List.drop_take]

theorem boundO_rel (h : SRel L n K st γ a w) {X : Option Operand} {x : Option AX} (hx : stripXO L X = some x) {d : Nat} {m : Int} (hm : boundO st d x = some m) :
    (X = none ∧ m = d) ∨ ∃ Y k, X = some Y ∧ a.eval Y = .int k m := by
  cases X with
  | none => simp [stripXO] at hx; subst hx; simp [boundO] at hm; exact .inl ⟨rfl, hm.symm⟩
  | some Y =>
    simp only [stripXO] at hx
    split at hx
    · rename_i y hy
      obtain rfl := Option.some.inj hx
      have ry := stripX_rel h hy
      simp only [boundO] at hm
      split at hm
      · rename_i k m' e
        rw [e] at ry
        obtain rfl := Option.some.inj hm
        exact .inr ⟨Y, k, rfl, ry.int_inv⟩
      · cases hm
    · cases hx

theorem run_bounds (h : SRel L n K st γ a w) {lo hi : Option Operand} {lo' hi' : Option AX} (hlo : stripXO L lo = some lo') (hhi : stripXO L hi = some hi') {len cap : Nat} {x y : Int}
    (h1 : boundO st 0 lo' = some x) (h2 : boundO st len hi' = some y) (hx : 0 ≤ x) (hxy : x ≤ y) (hy : y ≤ len) (hc : len ≤ cap) (isSlice : Bool) :
    (Instr.sliceBounds isSlice len cap (lo.map a.eval) (hi.map a.eval) none).run P w = .ok (x.toNat, y.toNat, cap) w := by
  rcases boundO_rel h hlo h1 with ⟨rfl, rfl⟩ | ⟨Y, k, rfl, ek⟩ <;> rcases boundO_rel h hhi h2 with ⟨rfl, rfl⟩ | ⟨Y', k', rfl, ek'⟩
  · simp [Instr.sliceBounds]
  · have q : 0 ≤ y ∧ y ≤ (cap : Int) := by omega
    simp [Instr.sliceBounds, Instr.sliceBound, ek', asIntOf, q]
  · have q : 0 ≤ x ∧ x ≤ (len : Int) := by omega
    simp [Instr.sliceBounds, Instr.sliceBound, ek, asIntOf, q]
  · have q : 0 ≤ y ∧ y ≤ (cap : Int) := by omega
    have q2 : 0 ≤ x ∧ x ≤ ((y.toNat : Nat) : Int) := by omega
    simp [Instr.sliceBounds, Instr.sliceBound, ek, ek', asIntOf, q, q2]
    omega

theorem sound_cutStr (h : SRel L n K st γ a w) (hd : dst.ok L n) {t : TypeId} {X : Operand} {lo hi : Option Operand} {lo' hi' : Option AX} {x : AX} (hop : o.op = .slice t X lo hi none) (ht : P.underlying t = some .string)
    (hx : stripX L X = some x) (hlo : stripXO L lo = some lo') (hhi : stripXO L hi = some hi')
    {d : Nat} {p : Prop} {δ : Delta} (hδ : astep st d (.cutStr x lo' hi') = some (p, δ)) (hp : p) : Runs P L n K (δ.apply st dst) dst.toOpt o a w := by
  have rx := stripX_rel h hx
  simp only [astep] at hδ
  split at hδ <;> try (cases hδ; done)
  rename_i l hl
  split at hδ <;> first | (simp only [Option.some.injEq, Prod.mk.injEq] at hδ; obtain ⟨rfl, rfl⟩ := hδ) | cases hδ
  rename_i x1 y1 h1 h2
  rw [hl] at rx
  obtain ⟨s, ev, rfl⟩ := rx.str_inv
  have hlen : s.data.toList.length = s.size := by simp
  rw [hlen] at h2 hp
  have hb := run_bounds (P := P) h hlo hhi h1 h2 hp.1 hp.2.1 hp.2.2 (Nat.le_refl _) false
  refine Runs.pure h hd (v := .string (s.extract x1.toNat y1.toNat)) (.base (.str _ _ (ext_str _ _ _))) ?_
  rw [show execOp a.eval o = (do pure (Next.value (← Instr.sliceAt t (a.eval X) (lo.map a.eval) (hi.map a.eval) none))) from by simp only [execOp, hop]; rfl]
  refine exec_value ?_
  simp [Instr.sliceAt, run_underlying ht, Instr.slice, ev, hb]

end ops
end Go.Proofs.Ytpiafiapjmldgaa
