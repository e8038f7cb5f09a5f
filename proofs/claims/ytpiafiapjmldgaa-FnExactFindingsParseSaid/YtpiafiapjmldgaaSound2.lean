/-
  The operations that only compute, continued.
-/
import Derived.Test.YtpiafiapjmldgaaSound1
namespace Go.Proofs.Ytpiafiapjmldgaa
set_option linter.all false

section ops
variable {P : Program} {L : Nat → Bool} {n : Nat} {K : Ctx} {st : St} {γ : Ghost} {a : Act} {w : World} {o : Oper} {dst : AD}

theorem sound_beq (h : SRel L n K st γ a w) (hd : dst.ok L n) {neg : Bool} {t t' : TypeId} {X Y : Operand} {x y : AX} (hop : o.op = .binOp (if neg then .neq else .eql) t X Y t') (ht : P.underlying t = some .bool)
    (hx : stripX L X = some x) (hy : stripX L Y = some y)
    {d : Nat} {p : Prop} {δ : Delta} (hδ : astep st d (.beq neg x y) = some (p, δ)) (hp : p) : Runs P L n K (δ.apply st dst) dst.toOpt o a w := by
  have rx := stripX_rel h hx
  have ry := stripX_rel h hy
  simp only [astep] at hδ
  split at hδ <;> try (cases hδ; done)
  rename_i b c eb ec
  rw [eb] at rx; rw [ec] at ry
  simp only [Option.some.injEq, Prod.mk.injEq] at hδ
  obtain ⟨rfl, rfl⟩ := hδ
  have ex := rx.bool_inv
  have ey := ry.bool_inv
  have hg := eqGuard_run (P := P) (if neg then BinOp.neq else BinOp.eql) t X Y (u := a.eval X) (v := a.eval Y) (by rw [ex]; simp) (by rw [ex]; simp) w
  have he : (Op.equal t (.bool b) (.bool c)).run P w = .ok (b == c) w := by
    unfold Op.equal
    show (Op.equalIn (9999 + 1) t (.bool b) (.bool c)).run P w = _
    rw [Op.equalIn]
    simp only [Sem.run_bind, run_underlying ht, Result.andThen]
    rfl
  refine Runs.pure h hd (v := .bool (if neg then b != c else b == c)) (.base (.bool _)) ?_
  simp only [execOp, hop, Sem.run_bind, hg, Result.andThen]
  rw [ex, ey]
  cases neg
  · simp [binOp, he]
  · simp [binOp, he]; cases b <;> cases c <;> rfl

theorem sound_pick (h : SRel L n K st γ a w) (hd : dst.ok L n) {C A B : Operand} {c x y : AX} (hop : o.op = .pick C A B) (hc : stripX L C = some c) (hx : stripX L A = some x) (hy : stripX L B = some y)
    {d : Nat} {p : Prop} {δ : Delta} (hδ : astep st d (.pick c x y) = some (p, δ)) (hp : p) : Runs P L n K (δ.apply st dst) dst.toOpt o a w := by
  have rc := stripX_rel h hc
  have rx := stripX_rel h hx
  have ry := stripX_rel h hy
  simp only [astep] at hδ
  split at hδ <;> try (cases hδ; done)
  rename_i b eb
  rw [eb] at rc
  simp only [Option.some.injEq, Prod.mk.injEq] at hδ
  obtain ⟨rfl, rfl⟩ := hδ
  have ex := rc.bool_inv
  refine Runs.pure h hd (v := if b then a.eval A else a.eval B) (by cases b <;> assumption) ?_
  simp [execOp, hop, ex, asBool]

theorem sound_un (h : SRel L n K st γ a w) (hd : dst.ok L n) {op : UnOp} {t : TypeId} {X : Operand} {x : AX} (hop : o.op = .unOp op t X) (hx : stripX L X = some x)
    {d : Nat} {p : Prop} {δ : Delta} (hδ : astep st d (.un op x) = some (p, δ)) (hp : p) : Runs P L n K (δ.apply st dst) dst.toOpt o a w := by
  have rx := stripX_rel h hx
  simp only [astep] at hδ
  split at hδ <;> try (cases hδ; done)
  rename_i q r hb
  simp only [Option.some.injEq, Prod.mk.injEq] at hδ
  obtain ⟨rfl, rfl⟩ := hδ
  generalize st.val x = vx at rx hb
  unfold unV at hb
  split at hb <;> first | (simp only [Option.some.injEq, Prod.mk.injEq] at hb; obtain ⟨rfl, rfl⟩ := hb) | cases hb
  · exact Runs.pure h hd (.base (.bool _)) (by simp [execOp, hop, rx.bool_inv, Op.unary])
  · exact Runs.pure h hd (.base (.int _ _)) (by
      have := inR_wrap hp
      simp [execOp, hop, rx.int_inv, Op.unary, Op.intArith, this])

theorem sound_conv (h : SRel L n K st γ a w) (hd : dst.ok L n) {src t : TypeId} {j k : IntKind} {X : Operand} {x : AX} (hop : o.op = .convert src t X) (hs : P.underlying src = some (.int j)) (ht : P.underlying t = some (.int k)) (hx : stripX L X = some x)
    {d : Nat} {p : Prop} {δ : Delta} (hδ : astep st d (.conv k x) = some (p, δ)) (hp : p) : Runs P L n K (δ.apply st dst) dst.toOpt o a w := by
  have rx := stripX_rel h hx
  simp only [astep] at hδ
  split at hδ <;> try (cases hδ; done)
  rename_i k' m e
  rw [e] at rx
  simp only [Option.some.injEq, Prod.mk.injEq] at hδ
  obtain ⟨rfl, rfl⟩ := hδ
  exact Runs.pure h hd (.base (.int _ _)) (by simp [execOp, hop, rx.int_inv, convert, run_underlying hs, run_underlying ht, Conv.intToInt])

theorem sound_nilc (h : SRel L n K st γ a w) (hd : dst.ok L n) {X : Operand} {x : AX} (hop : o.op = .nilCheck X) (hx : stripX L X = some x)
    {d : Nat} {p : Prop} {δ : Delta} (hδ : astep st d (.nilc x) = some (p, δ)) (hp : p) : Runs P L n K (δ.apply st dst) dst.toOpt o a w := by
  have rx := stripX_rel h hx
  simp only [astep] at hδ
  split at hδ <;> try (cases hδ; done)
  · rename_i b off e
    rw [e] at rx
    simp only [Option.some.injEq, Prod.mk.injEq] at hδ
    obtain ⟨rfl, rfl⟩ := hδ
    obtain ⟨g, eg, _⟩ := rx.ptr_inv
    exact Runs.pure h hd rx (by simp [execOp, hop, eg])
  · rename_i s i j e
    rw [e] at rx
    simp only [Option.some.injEq, Prod.mk.injEq] at hδ
    obtain ⟨rfl, rfl⟩ := hδ
    obtain ⟨_, _, _, _, _, _, _, _, _, eg⟩ := rx.elp_inv
    exact Runs.pure h hd rx (by simp [execOp, hop, eg])

theorem sound_extract (h : SRel L n K st γ a w) (hd : dst.ok L n) {X : Operand} {x : AX} {i : Nat} (hop : o.op = .extract X i) (hx : stripX L X = some x)
    {d : Nat} {p : Prop} {δ : Delta} (hδ : astep st d (.extract x i) = some (p, δ)) (hp : p) : Runs P L n K (δ.apply st dst) dst.toOpt o a w := by
  have rx := stripX_rel h hx
  simp only [astep] at hδ
  split at hδ <;> try (cases hδ; done)
  rename_i vs e
  rw [e] at rx
  simp only [Option.some.injEq, Prod.mk.injEq] at hδ
  obtain ⟨rfl, rfl⟩ := hδ
  obtain ⟨us, eu, hl, hr⟩ := rx.tup_inv
  have hi : i < us.length := by omega
  refine Runs.pure h hd (v := us[i]) ?_ ?_
  · rw [List.getD_eq_getElem?_getD, List.getElem?_eq_getElem hp]
    exact hr i hp hi
  · simp [execOp, hop, eu, Instr.extract, List.getElem?_eq_getElem hi]

theorem sound_faddr (h : SRel L n K st γ a w) (hd : dst.ok L n) {t : TypeId} {X : Operand} {x : AX} {f m : Nat} {fields : Array Field} {fl : Field} (hop : o.op = .fieldAddr t X f) (ht : P.underlying t = some (.struct fields))
    (hf : fields[f]? = some fl) (hs : sizeT P fl.type = some m) (hm : 0 < m) (hx : stripX L X = some x)
    {d : Nat} {p : Prop} {δ : Delta} (hδ : astep st d (.faddr fl.offset x) = some (p, δ)) (hp : p) : Runs P L n K (δ.apply st dst) dst.toOpt o a w := by
  have rx := stripX_rel h hx
  have hsz : (sizeOf fl.type).run P w = .ok m w := by
    unfold sizeT at hs
    cases hi : P.info? fl.type with
    | none => simp [hi] at hs
    | some i => simp [hi] at hs; simp [sizeOf, typeInfo, hi, hs]
  have hadd : ∀ (g off : Nat), (⟨g, off, none⟩ : Addr).add fl.offset = ⟨g, off + fl.offset, none⟩ := by
    intro g off; unfold Addr.add; split <;> simp_all
  have hrun : ∀ (g off : Nat), (Instr.fieldAt t (.pointer (some ⟨g, off, none⟩)) f).run P w = .ok (.pointer (some ⟨g, off + fl.offset, none⟩)) w := by
    intro g off
    simp [Instr.fieldAt, run_underlying ht, hf, Instr.sureAddr, fieldPlace, hsz, Nat.pos_iff_ne_zero.1 hm, hadd]
  simp only [astep] at hδ
  split at hδ <;> try (cases hδ; done)
  · rename_i b off e
    rw [e] at rx
    simp only [Option.some.injEq, Prod.mk.injEq] at hδ
    obtain ⟨rfl, rfl⟩ := hδ
    obtain ⟨g, eg, hb⟩ := rx.ptr_inv
    exact Runs.pure h hd (.ptr hb) (by simp [execOp, hop, eg, hrun])
  · rename_i s i j e
    rw [e] at rx
    simp only [Option.some.injEq, Prod.mk.injEq] at hδ
    obtain ⟨rfl, rfl⟩ := hδ
    obtain ⟨sz, xs, g, off, nn, cap, h1, h2, h3, eg⟩ := rx.elp_inv
    refine Runs.pure h hd (.elp s i (j + fl.offset) sz xs g off nn cap h1 h2 h3) ?_
    simp [execOp, hop, eg, hrun, Nat.add_assoc]

end ops
end Go.Proofs.Ytpiafiapjmldgaa
