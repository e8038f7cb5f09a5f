/-
  The operations that write memory: stores, appends; and those that read a whole slice.
-/
import Derived.Test.YtnhhcfbigjpfeaaDoorQ05
namespace Go.Proofs.YtnhhcfbigjpfeaaDoor
set_option linter.all false

section

section ops
variable {P : Program} {L : Nat → Bool} {n : Nat} {K : Ctx} {st : St} {γ : Ghost} {a : Act} {w : World} {o : Oper} {dst : AD}

theorem bytesOf_rel {O : Nat → Prop} : ∀ {xs : List V} {l : List UInt8} {us : List Value}, bytesOf xs = some l → us.length = (flat xs).length → (∀ k (h : k < (flat xs).length) (h' : k < us.length), PRel O w ((flat xs)[k]) (us[k])) →
    ∃ ns : List Int, us = ns.map (Value.int .u8) ∧ l = ns.map fun m => UInt8.ofNat m.toNat
  | [], l, us, h, hl, he => by
    simp [bytesOf] at h; subst h
    exact ⟨[], List.eq_nil_of_length_eq_zero (by simpa [flat] using hl), rfl⟩
  | x :: r, l, us, h, hl, he => by
    simp only [bytesOf] at h
    split at h
    · rename_i b l' h1 h2
      obtain rfl := Option.some.inj h
      cases x <;> simp [byteOf] at h1
      rename_i k m
      cases k <;> simp at h1
      subst h1
      cases us with
      | nil => simp [flat, V.cells] at hl
      | cons u us =>
        have hu := he 0 (by simp [flat, V.cells]) (by simp)
        simp only [flat_cons, V.cells, List.singleton_append, List.getElem_cons_zero] at hu
        obtain ⟨ns, e1, e2⟩ := bytesOf_rel (xs := r) (us := us) h2 (by simpa [flat_cons, V.cells] using hl) (fun k h h' => by
          have := he (k + 1) (by simp only [flat_cons, V.cells, List.singleton_append, List.length_cons]; omega) (by simpa using h')
          simpa [flat_cons, V.cells] using this)
        cases hu
        exact ⟨m :: ns, by simp [e1], by simp [e2]⟩
    · cases h

theorem bytesOf_length : ∀ {xs : List V} {l : List UInt8}, bytesOf xs = some l → l.length = xs.length
  | [], l, h => by simp [bytesOf] at h; subst h; rfl
  | x :: r, l, h => by
    simp only [bytesOf] at h
    split at h
    · obtain rfl := Option.some.inj h; simp [bytesOf_length (xs := r) ‹_›]
    · cases h

theorem foldl_push_data (ns : List Int) : ∀ (r : ByteArray), (ns.foldl (fun r m => r.push (UInt8.ofNat m.toNat)) r).data.toList = r.data.toList ++ ns.map fun m => UInt8.ofNat m.toNat := by
  induction ns with
  | nil => simp
  | cons m r ih => intro b; rw [List.foldl_cons, ih]; simp [ByteArray.push]

theorem sound_toStr (h : SRel L n K st γ a w) (hd : dst.ok L n) {src t e : TypeId} {X : Operand} {x : AX} (hop : o.op = .convert src t X) (hs : P.underlying src = some (.slice e)) (ht : P.underlying t = some .string) (he : P.underlying e = some (.int .u8))
    (hx : stripX L X = some x)
    {d : Nat} {p : Prop} {δ : Delta} (hδ : astep st d (.toStr x) = some (p, δ)) (hp : p) : Runs P L n K (δ.apply st dst) dst.toOpt o a w := by
  have rx := stripX_rel h hx
  have hex : execOp a.eval o = (do pure (Next.value (← convert src t (a.eval X)))) := by simp only [execOp, hop]
  simp only [astep] at hδ
  split at hδ <;> try (cases hδ; done)
  rename_i xs hxs
  split at hδ <;> first | (simp only [Option.some.injEq, Prod.mk.injEq] at hδ; obtain ⟨rfl, rfl⟩ := hδ) | cases hδ
  rename_i l hl
  have hconv : ∀ v : Value, v.isSl → (convert src t v).run P w = (Conv.bytesToString v).run P w := by
    rintro v ⟨q, k, c, rfl⟩
    simp [convert, run_underlying hs, run_underlying ht, run_underlying he]
  rcases V.elems_cases hxs with ⟨e1, rfl⟩ | ⟨sz, e1⟩
  · rw [e1] at rx
    have ev := rx.nils_inv
    simp [bytesOf] at hl; subst hl
    refine Runs.pure h hd (v := .string .empty) (.base (.str _ _ (by rfl))) ?_
    rw [hex]
    exact exec_value (by rw [ev, hconv _ ⟨_, _, _, rfl⟩]; rfl)
  · rcases rx.slRead e1 hp with ⟨⟨q, ev⟩, rfl⟩ | ⟨g, off, cap, c, e', fr, us, ev, hg, hcap, hmax, hsz, hlen, hus, h1c, hel⟩
    · simp [bytesOf] at hl; subst hl
      refine Runs.pure h hd (v := .string .empty) (.base (.str _ _ (by rfl))) ?_
      rw [hex]
      refine exec_value ?_
      rw [ev, hconv _ ⟨_, _, _, rfl⟩]
      cases q with
      | none => rfl
      | some ad => exact run_bytesToString w _ _ _ [] rfl
    · obtain ⟨ns, e2, e3⟩ := bytesOf_rel hl hlen hel
      have hnl : us.length = xs.length := by
        have h2 := bytesOf_length hl
        rw [e3] at h2
        rw [e2]
        simpa using h2
      refine Runs.pure h hd (v := .string (ns.foldl (fun r m => r.push (UInt8.ofNat m.toNat)) ByteArray.empty)) (.base (.str _ _ (by rw [foldl_push_data, e3]; rfl))) ?_
      rw [hex]
      refine exec_value ?_
      rw [ev, hconv _ ⟨_, _, _, rfl⟩]
      refine run_bytesToString w _ _ _ ns ?_
      have := loadCells_rel (P := P) hg hus
      rw [hnl] at this
      rw [this, e2]

/-- The run of a store into a row. -/
theorem storeVar_rel {t : TypeId} {m : Nat} (hm : sizeT P t = some m) {g off : Nat} {c : Array Value} {e : TypeId} (hg : w.heap[g]? = some (.cells c e (0, 0))) {v : Value} (hv : v.cells.size = m) (h1 : ∀ u ∈ v.cells, u.oneCell' = true) (hb : off + m ≤ c.size) :
    (storeVar t ⟨g, off, none⟩ v).run P w = .ok () (w.setRow g (c.toList.take off ++ v.cells.toList ++ c.toList.drop (off + m)).toArray) := by
  have := run_storeCells_at P g off e v.cells.toList 0 c w hg (by simp; omega) (fun u hu => h1 u (by simpa using hu))
  simp only [Nat.add_zero, Array.length_toList, hv] at this
  simp only [storeVar, Sem.run_bind, run_sizeT hm, Result.andThen]
  rw [if_neg (by omega)]
  exact this

theorem setRow_size (w : World) (g : Nat) (cs : Array Value) : (w.setRow g cs).heap.size = w.heap.size := by simp [World.setRow]

theorem setRow_typ {w : World} {g : Nat} {cs : Array Value} {k t : Nat} (h : OfType w k t) : OfType (w.setRow g cs) k t := by
  obtain ⟨c, fr, q⟩ := h
  by_cases e : k = g
  · subst e; exact ⟨cs, fr, setRow_heap w k c cs t fr q⟩
  · exact ⟨c, fr, by rw [setRow_other w g k cs e]; exact q⟩

theorem setRow_frame {K : Ctx} {w : World} (h : K.frame w) {g : Nat} (hg : K.may g) (cs : Array Value) : K.frame (w.setRow g cs) := by
  refine ⟨h.os, h.tape, h.output, by rw [setRow_size]; exact h.size, fun k hk hi => ?_, fun g t q => setRow_typ (h.typ g t q)⟩
  rw [setRow_other w g k cs (by rintro rfl; rcases hg with hg | hg; omega; exact hi hg)]
  exact h.same k hk hi

theorem HInv.sp_ne {B : List (Nat × List V)} {S : Stats} (h : HInv K B S γ w) {σ top sz g : Nat} (hs : lookS S σ = some (.own top sz)) (hg : γ.sp σ = some g) {b : Nat} {g' : Nat} (ho : γ.ow g' = some (true, b)) : g ≠ g' := by
  rcases h.sp σ top sz hs with ⟨h1, _⟩ | ⟨g2, c, e, h1, h2, _⟩
  · rw [hg] at h1; cases h1
  · rw [hg] at h1
    obtain rfl := Option.some.inj h1
    rintro rfl
    rw [ho] at h2
    simp at h2

theorem sound_store (h : SRel L n K st γ a w) (hd : dst.ok L n) {t : TypeId} {A X : Operand} {y x : AX} {m : Nat} (hop : o.op = .store t A X) (hm : sizeT P t = some m) (hy : stripX L A = some y) (hx : stripX L X = some x)
    {d : Nat} {p : Prop} {δ : Delta} (hδ : astep st d (.store m y x) = some (p, δ)) (hp : p) : Runs P L n K (δ.apply st dst) dst.toOpt o a w := by
  have ry := stripX_rel h hy
  have rx := stripX_rel h hx
  simp only [astep] at hδ
  split at hδ <;> try (cases hδ; done)
  rename_i b off e1
  rw [e1] at ry
  split at hδ <;> first | (simp only [Option.some.injEq, Prod.mk.injEq] at hδ; obtain ⟨rfl, rfl⟩ := hδ) | cases hδ
  rename_i cs e2
  obtain ⟨p1, p2, p3⟩ := hp
  obtain ⟨g, ev, hb⟩ := ry.ptr_inv
  obtain ⟨g', c, e, f1, f2, f3, f4, f5⟩ := h.h.box _ _ e2
  obtain rfl : g = g' := by rw [hb] at f1; exact Option.some.inj f1
  obtain ⟨c1, c2⟩ := rx.cells p1
  have hone := rx.one p1
  have hrun := storeVar_rel (P := P) hm f3 (off := off) (v := a.eval X) (by omega) hone (by omega)
  generalize hc' : (c.toList.take off ++ (a.eval X).cells.toList ++ c.toList.drop (off + m)).toArray = c' at hrun
  have hcs : c'.size = c.size := by rw [← hc']; simp; omega
  have hnew : (w.setRow g c').heap[g]? = some (.cells c' e (0, 0)) := setRow_heap w g c c' e (0, 0) f3
  have hoth : ∀ k, k ≠ g → (w.setRow g c').heap[k]? = w.heap[k]? := fun k hk => setRow_other w g k c' hk
  have hgO : γ.O g := .inl (by simp [f2])
  have ev2 : Evo st.stat γ w st.stat γ (w.setRow g c') := by
    refine ⟨fun k ob h1 h2 => ⟨h1, ?_⟩, fun d g hd => hd, fun g t q => setRow_typ q, fun σ h => h, fun σ h => .inl h, fun σ top sz h1 => .inr (.inr ⟨top, h1, Nat.le_refl _, fun k c2 e2 fr h2 h3 => .inl ⟨h2, c2, ?_, rfl, fun _ _ => rfl⟩⟩)⟩
    · rw [hoth k (by rintro rfl; exact h1 hgO)]; exact h2
    · rw [hoth k (h.h.sp_ne h1 h2 f2)]; exact h3
  refine ⟨undef, w.setRow g c', γ, .inr ⟨?_, rfl⟩, ?_⟩
  · have hst : (Instr.storeAt t (a.eval A) (a.eval X)).run P w = .ok () (w.setRow g c') := by
      rw [ev]; simp [Instr.storeAt, Instr.sureAddr, hrun]
    simp only [execOp, hop, Sem.run_bind, hst, Result.andThen]
    rfl
  · refine h.step hd ev2 ?_ (.base (.undef _))
    refine ⟨fun d' cs' hl => ?_, ⟨fun d' k hk => ?_, h.h.bxd.2⟩, fun σ top sz hs => ?_, fun k x hk => ?_, ⟨h.h.av.1, fun k hk => by rw [setRow_size]; exact h.h.av.2 k hk⟩, setRow_frame h.h.frame (h.h.ow g _ f2).2 c'⟩
    · simp only [List.cons_append, List.nil_append, lookB] at hl
      by_cases hdb : d' = b
      · rw [if_pos hdb] at hl
        obtain rfl := Option.some.inj hl
        subst hdb
        refine ⟨g, c', e, hb, f2, hnew, by simp; omega, fun k hk hk' => ?_⟩
        refine VRel.evo ev2 ?_
        have hk2 : k < (c.toList.take off ++ (a.eval X).cells.toList ++ c.toList.drop (off + m)).length := by
          have : c'.toList.length = c'.size := by simp
          rw [← hc'] at this hk'; simpa using hk'
        have hget : c'[k] = (c.toList.take off ++ (a.eval X).cells.toList ++ c.toList.drop (off + m))[k] := by
          have : c'[k]? = (c.toList.take off ++ (a.eval X).cells.toList ++ c.toList.drop (off + m))[k]? := by rw [← hc']; simp
          rw [Array.getElem?_eq_getElem hk', List.getElem?_eq_getElem hk2] at this
          exact Option.some.inj this
        rw [hget]
        by_cases k1 : k < off
        · rw [List.getElem_append_left (by simp; omega), List.getElem_append_left (by simp; omega), List.getElem_append_left (by simp; omega), List.getElem_append_left (by simp; omega)]
          simp only [List.getElem_take, Array.getElem_toList]
          exact f5 k (by omega) (by omega)
        · by_cases k2 : k < off + m
          · rw [List.getElem_append_left (by simp; omega), List.getElem_append_right (by simp; omega), List.getElem_append_left (by simp; omega), List.getElem_append_right (by simp; omega)]
            simp only [List.length_take, Array.length_toList, Array.getElem_toList]
            have q1 : k - min off cs.length = k - off := by omega
            have q2 : k - min off c.size = k - off := by omega
            simp only [q1, q2]
            exact c2 (k - off) (by omega) (by omega)
          · rw [List.getElem_append_right (by simp; omega), List.getElem_append_right (by simp; omega)]
            simp only [List.getElem_drop, List.length_append, List.length_take, Array.length_toList, Array.getElem_toList]
            have q1 : off + m + (k - (min off cs.length + (st.val x).cells.length)) = k := by omega
            have q2 : off + m + (k - (min off c.size + (a.eval X).cells.size)) = k := by omega
            simp only [q1, q2]
            exact f5 k (by simp at hk; omega) (by omega)
      · rw [if_neg hdb] at hl
        obtain ⟨k, c2, e2, h1, h2, h3, h4, h5⟩ := h.h.box d' cs' hl
        have hk : k ≠ g := by rintro rfl; rw [f2] at h2; simp at h2; exact hdb h2.symm
        exact ⟨k, c2, e2, h1, h2, by rw [hoth k hk]; exact h3, h4, fun j q1 q2 => (h5 j q1 q2).evo ev2⟩
    · have := h.h.bxd.1 d' k hk
      by_cases hdb : d' = b
      · simp [lookB, hdb]
      · simpa [lookB, hdb] using this
    · rcases h.h.sp σ top sz hs with h1 | ⟨k, c2, e2, h1, h2, h3, h4⟩
      · exact .inl h1
      · exact .inr ⟨k, c2, e2, h1, h2, by rw [hoth k (h.h.sp_ne hs h1 f2)]; exact h3, h4⟩
    · have := h.h.ow k x hk
      exact ⟨by rw [setRow_size]; exact this.1, this.2⟩

/-- The cells of a source. -/
theorem source_cells {O : Nat → Prop} {sz : Nat} {ys : List V} {v : Value} (h : SlRead O w sz ys v) (hsz : ∀ y ∈ ys, y.cells.length = sz) :
    ∃ (b : Option Addr) (cp : Nat) (us : List Value), v = .slice b ys.length cp ∧ us.length = ys.length * sz ∧ (∀ u ∈ us, u.oneCell' = true) ∧
      (us.length = (flat ys).length) ∧ (∀ k (h : k < (flat ys).length) (h' : k < us.length), PRel O w ((flat ys)[k]) (us[k])) ∧
      ((b = none ∧ ys = [] ∧ us = []) ∨ ∃ ad, b = some ad ∧ ∀ j u, us[j]? = some u → w.cell? (ad.add j) = some u) := by
  have hl := length_flat hsz
  rcases h with ⟨⟨p, rfl⟩, rfl⟩ | ⟨g, off, cap, c, e, fr, us, rfl, hg, hcap, hmax, _, hlen, hus, h1, hel⟩
  · refine ⟨p, 0, [], rfl, by simp, by simp, by simp [flat], by simp, ?_⟩
    cases p with
    | none => exact .inl ⟨rfl, rfl, rfl⟩
    | some ad => exact .inr ⟨ad, rfl, fun j u hu => by simp at hu⟩
  · refine ⟨some ⟨g, off, none⟩, cap, us, rfl, by omega, h1, hlen, hel, .inr ⟨_, rfl, fun j u hu => ?_⟩⟩
    rw [addr_add]
    have hj : j < us.length := (List.getElem?_eq_some_iff.1 hu).1
    simp only [World.cell?, hg]
    simpa [hu] using hus j hj

theorem run_first {sz m : Nat} {b : Option Addr} {cp : Nat} {us : List Value} (hl : us.length = m * sz) (h : (b = none ∧ us = []) ∨ ∃ ad, b = some ad ∧ ∀ j u, us[j]? = some u → w.cell? (ad.add j) = some u) (w1 : World)
    (hw : ∀ ad, w1.cell? ad = w.cell? ad) : (Builtin.firstCells sz m (.slice b m cp)).run P w1 = .ok us.toArray w1 := by
  rcases h with ⟨rfl, rfl⟩ | ⟨ad, rfl, h⟩
  · simp [Builtin.firstCells]
  · exact run_firstCells_some w1 sz m ad m cp us hl (fun j v hv => by rw [hw]; exact h j v hv)

/-- 'append' where there is room. -/
theorem append_room {t ty e e' : TypeId} {i : TypeInfo} (ht : P.underlying t = some (.slice e)) (hi : P.info? e = some i) {g nn cap : Nat} {c : Array Value} (hg : w.heap[g]? = some (.cells c e' (0, 0)))
    {b : Option Addr} {m cp : Nat} {us : List Value} (hl : us.length = m * i.size) (hsrc : (b = none ∧ us = []) ∨ ∃ ad, b = some ad ∧ ∀ j u, us[j]? = some u → w.cell? (ad.add j) = some u) (h1 : ∀ u ∈ us, u.oneCell' = true)
    (hroom : nn + m ≤ cap) (hfit : nn * i.size + us.length ≤ c.size) :
    (Builtin.append_ #[t, t] ty #[.slice (some ⟨g, 0, none⟩) nn cap, .slice b m cp]).run P w =
      .ok (.slice (some ⟨g, 0, none⟩) (nn + m) cap) (w.setRow g (c.toList.take (nn * i.size) ++ us ++ c.toList.drop (nn * i.size + us.length)).toArray) := by
  have hf := run_first (P := P) (w := w) (sz := i.size) (cp := cp) hl hsrc w (fun _ => rfl)
  have hst := run_storeCells_at P g (nn * i.size) e' us 0 c w hg (by simpa using hfit) h1
  simp only [Nat.add_zero] at hst
  simp [Builtin.append_, run_underlying ht, sizeOf, typeInfo, hi, Builtin.lenOf, hroom, hf, Addr.add_lit, hst]

/-- 'append' where there is none. -/
theorem append_grow {t ty e : TypeId} {i : TypeInfo} {z : Value} (ht : P.underlying t = some (.slice e)) (hi : P.info? e = some i) (hz : i.zero = some z)
    {b0 : Option Addr} {nn cap : Nat} {olds : List Value} (hlo : olds.length = nn * i.size) (hold : (b0 = none ∧ olds = []) ∨ ∃ ad, b0 = some ad ∧ ∀ j u, olds[j]? = some u → w.cell? (ad.add j) = some u)
    {b : Option Addr} {m cp : Nat} {us : List Value} (hl : us.length = m * i.size) (hsrc : (b = none ∧ us = []) ∨ ∃ ad, b = some ad ∧ ∀ j u, us[j]? = some u → w.cell? (ad.add j) = some u)
    (hg : cap < nn + m) (h63 : ((nn + m : Nat) : Int) ≤ 9223372036854775807) (hfit : Builtin.nextslicecap (nn + m) cap * i.bytes ≤ 281474976710656) :
    (Builtin.append_ #[t, t] ty #[.slice b0 nn cap, .slice b m cp]).run P w =
      .ok (.slice (some ⟨w.heap.size, 0, none⟩) (nn + m) (grownCap w (nn + m) cap e))
        (w.drew.alloc (.cells (olds ++ us ++ (Builtin.zeroCells z.cells (grownCap w (nn + m) cap e - (nn + m))).toList).toArray e)) := by
  have hn : ¬ (nn + m ≤ cap) := by omega
  have h63' : ¬ (9223372036854775807 < ((nn : Int) + (m : Int))) := by omega
  have h48' : ¬ (281474976710656 < Builtin.nextslicecap (nn + m) cap * i.bytes) := by omega
  have hf := run_first (P := P) (w := w) (sz := i.size) (cp := cp) hl hsrc w.drew (fun ad => by simp)
  have hfo := run_first (P := P) (w := w) (sz := i.size) (cp := cap) hlo hold w.drew (fun ad => by simp)
  simp [Builtin.append_, run_underlying ht, sizeOf, typeInfo, zeroValue, hi, hz, Builtin.lenOf, hn, h63', h48', Question.forced, hf, hfo, newRow, grownCap]
  congr 2
  apply Array.ext'
  simp

theorem run_append_call {c : Call} {X Y : Operand} {t : TypeId} (hop : o.op = .call c) (hc : c.callee = .builtin .append) (hargs : c.args.toList = [X, Y]) (hts : c.argTypes.toList = [t, t]) {v : Value} {w' : World}
    (h : (Builtin.append_ #[t, t] o.type #[a.eval X, a.eval Y]).run P w = .ok v w') : (execOp a.eval o).run P w = .ok (.value v) w' := by
  have e1 : c.args = #[X, Y] := by rw [← Array.toArray_toList (xs := c.args), hargs]
  have e2 : c.argTypes = #[t, t] := by rw [← Array.toArray_toList (xs := c.argTypes), hts]
  rw [run_builtin (P := P) (a := a) (w := w) c .append hop hc, e1, e2]
  simp [builtin, h]

theorem roomOk_maxLen {m bytes : Nat} (h : roomOk m bytes) (hb : 0 < bytes) : m ≤ maxLen ∧ ((m : Nat) : Int) ≤ 9223372036854775807 ∧ m * bytes ≤ 140737488355328 := by
  unfold roomOk at h
  have : m * 1 ≤ m * bytes := Nat.mul_le_mul_left _ hb
  refine ⟨by simp only [maxLen]; omega, by omega, by omega⟩

theorem aliveV_cases {S : Stats} {s : V} {ys : List V} (hs : s.elems = some ys) (ha : aliveV S s) {v : Value} (h : VRel S γ w s v) {sz : Nat} (hsz : ∀ y ∈ ys, y.cells.length = sz) : SlRead γ.O w sz ys v := by
  rcases V.elems_cases hs with ⟨rfl, rfl⟩ | ⟨sz', hs'⟩
  · exact .inl ⟨⟨none, h.nils_inv⟩, rfl⟩
  · rcases h.slRead hs' ha with h | ⟨g, off, cap, c, e, fr, us, h1, h2, h3, h4, h5, h6⟩
    · exact .inl h
    · exact .inr ⟨g, off, cap, c, e, fr, us, h1, h2, h3, h4, hsz, h6⟩

theorem sound_append_nil (h : SRel L n K st γ a w) (hd : dst.ok L n) {c : Call} {X Y : Operand} {t e : TypeId} {i : TypeInfo} {z : Value} {y : AX} (hop : o.op = .call c) (hc : c.callee = .builtin .append) (hargs : c.args.toList = [X, Y]) (hts : c.argTypes.toList = [t, t])
    (ht : P.underlying t = some (.slice e)) (hi : P.info? e = some i) (hz : i.zero = some z) (hzs : z.cells.size = i.size) (hb : 0 < i.bytes) (hy : stripX L Y = some y) (hX : a.eval X = .slice none 0 0)
    {ys : List V} (hys : (st.val y).elems = some ys) {s : Nat} (hs : lookS st.stat s = none) (hal : aliveV st.stat (st.val y)) (hel : ∀ v ∈ ys, v.cells.length = i.size) (hroom : roomOk ys.length i.bytes) {cl : Cls} :
    Runs P L n K (Delta.apply { val := .sl (some s) i.size ys, ns := [(s, some (.own ys.length i.size))], cls := cl } st dst) dst.toOpt o a w := by
  have ry := stripX_rel h hy
  obtain ⟨b, cp, us, ev, q1, q2, q3, q4, q5⟩ := source_cells (aliveV_cases hys hal ry hel) hel
  have hsrc : (b = none ∧ us = []) ∨ ∃ ad, b = some ad ∧ ∀ j u, us[j]? = some u → w.cell? (ad.add j) = some u := by
    rcases q5 with ⟨a1, _, a2⟩ | q5
    · exact .inl ⟨a1, a2⟩
    · exact .inr q5
  obtain ⟨r1, r2, r3⟩ := roomOk_maxLen hroom hb
  by_cases h0 : ys.length = 0
  · obtain rfl : ys = [] := List.eq_nil_of_length_eq_zero h0
    have hus : us = [] := List.eq_nil_of_length_eq_zero (by simpa using q1)
    subst hus
    -- nothing is appended: the slice stays nil, a stamp without storage
    let γ' : Ghost := { γ with sp := upd γ.sp s none }
    have hne : ∀ σ x, lookS st.stat σ = some x → σ ≠ s := by rintro σ x hx rfl; rw [hs] at hx; cases hx
    have ev2 : Evo st.stat γ w ((s, some (.own 0 i.size)) :: st.stat) γ' w := by
      refine ⟨fun g ob h1 h2 => ⟨h1, h2⟩, fun d g hd => hd, fun g t q => q, fun σ hq => by simpa [lookS, hne _ _ hq] using hq, fun σ hq => .inl (by simpa [lookS, hne _ _ hq] using hq),
        fun σ top sz' hq => .inr (.inr ⟨top, by simpa [lookS, hne _ _ hq] using hq, Nat.le_refl _, fun g c e fr h2 h3 => .inl ⟨by simpa [γ', upd, hne _ _ hq] using h2, c, h3, rfl, fun k _ => rfl⟩⟩)⟩
    refine ⟨.slice none 0 0, w, γ', .inl (run_append_call hop hc hargs hts ?_), h.step hd ev2 ?_ (.own (top := 0) (by simp [lookS]) (.inl ⟨rfl, rfl⟩))⟩
    · have hf := run_first (P := P) (w := w) (sz := i.size) (m := 0) (b := b) (cp := cp) (us := []) (Nat.zero_mul i.size).symm hsrc w (fun _ => rfl)
      rw [hX, ev]
      simp [Builtin.append_, run_underlying ht, sizeOf, typeInfo, hi, Builtin.lenOf, hf]
    · refine ⟨fun d cs' hl => ?_, h.h.bxd, fun σ top sz' hq => ?_, h.h.ow, h.h.av, h.h.frame⟩
      · obtain ⟨g, c', e', h1, h2, h3, h4, h5⟩ := h.h.box d cs' hl
        exact ⟨g, c', e', h1, h2, h3, h4, fun k hk hk' => (h5 k hk hk').evo ev2⟩
      · simp only [List.cons_append, List.nil_append, lookS] at hq
        by_cases e : σ = s
        · rw [if_pos e] at hq
          cases hq
          exact .inl ⟨by simp [γ', upd, e], rfl⟩
        · rw [if_neg e] at hq
          rcases h.h.sp σ top sz' hq with h1 | ⟨g, c', e', h1, h2⟩
          · exact .inl (by simpa [γ', upd, e] using h1)
          · exact .inr ⟨g, c', e', by simpa [γ', upd, e] using h1, h2⟩
  · have hr := append_grow (P := P) (w := w) (ty := o.type) ht hi hz (b0 := none) (nn := 0) (cap := 0) (olds := []) (Nat.zero_mul i.size).symm (.inl ⟨rfl, rfl⟩) (cp := cp) (by simpa using q1) hsrc (by omega) (by omega) (growslice_fits (by omega) (by simpa using r3))
    simp only [Nat.zero_add, List.nil_append] at hr
    obtain ⟨γ', h2⟩ := new_own h hd hs (pushed_drew_alloc w _) (xs := ys) (sz := i.size) (cap := grownCap w ys.length 0 e) (c := (us ++ (Builtin.zeroCells z.cells (grownCap w ys.length 0 e - ys.length)).toList).toArray) (us := us)
      (grownCap_ge _ _ _ _) (grownCap_le_maxLen _ _ _ _ r1) hel q3 (fun k hk => by simp [List.getElem?_append_left hk]) q2 q4 (by
        have := grownCap_ge w ys.length 0 e
        simp only [List.size_toArray, List.length_append, Array.length_toList, size_zeroCells, hzs, q1, ← Nat.add_mul]
        congr 1; omega) (cl := cl) (e := e)
    exact ⟨_, _, γ', .inl (run_append_call hop hc hargs hts (by rw [hX, ev]; exact hr)), h2⟩

/-- Storage that has moved. -/
theorem own_grow_x (h : SRel L n K st γ a w) (hd : dst.ok L n) {σ top sz : Nat} (hs : lookS st.stat σ = some (.own top sz)) {w' : World} {c : Array Value} {e : TypeId} (hw : Pushed w w' (.cells c e (0, 0))) {zs : List V} {cap : Nat} {us : List Value}
    (hcap : zs.length ≤ cap) (hmax : cap ≤ maxLen) (hsz : ∀ x ∈ zs, x.cells.length = sz) (hlen : us.length = (flat zs).length) (hus : ∀ k, k < us.length → c[k]? = us[k]?) (h1 : ∀ u ∈ us, u.oneCell' = true)
    (hel : ∀ k (h : k < (flat zs).length) (h' : k < us.length), PRel γ.O w ((flat zs)[k]) (us[k])) (hc : c.size = cap * sz) (htop : top < zs.length) {cl : Cls} {xr : V} (hxr : ∀ γ', VRel ((σ, some (.own zs.length sz)) :: st.stat) γ' w' (.sl (some σ) sz zs) (.slice (some ⟨w.heap.size, 0, none⟩) zs.length cap) → VRel ((σ, some (.own zs.length sz)) :: st.stat) γ' w' xr (.slice (some ⟨w.heap.size, 0, none⟩) zs.length cap)) :
    ∃ γ', SRel L n K (Delta.apply { val := xr, ns := [(σ, some (.own zs.length sz))], cls := cl } st dst) γ' (a.put dst.toOpt (.slice (some ⟨w.heap.size, 0, none⟩) zs.length cap)) w' := by
  let γ' : Ghost := { γ with sp := upd γ.sp σ (some w.heap.size), ow := fun g => if g = w.heap.size then some (false, σ) else if γ.sp σ = some g then none else γ.ow g }
  have hO : ∀ g, g ≠ w.heap.size → γ'.O g → γ.O g := fun g hg hq => or_map hq (fun q => by
    intro e; apply q; simp only [γ', hg, if_false]; split <;> simp [e]) id
  have ev : Evo st.stat γ w ((σ, some (.own zs.length sz)) :: st.stat) γ' w' := by
    refine ⟨fun g ob h1 h2 => ⟨fun q => h1 (hO g (by have := (Array.getElem?_eq_some_iff.1 h2).1; omega) q), hw.old h2⟩, fun d g hd => hd, fun g t q => hw.typ q, fun τ hq => ?_, fun τ hq => ?_, fun τ tp sz' hq => ?_⟩
    · have : τ ≠ σ := by rintro rfl; rw [hs] at hq; cases hq
      simpa [lookS, this] using hq
    · have : τ ≠ σ := by rintro rfl; rw [hs] at hq; cases hq
      exact .inl (by simpa [lookS, this] using hq)
    · by_cases e : τ = σ
      · subst e
        rw [hs] at hq
        cases hq
        refine .inr (.inr ⟨zs.length, by simp [lookS], by omega, fun g c2 e2 fr h2 h3 => .inr ⟨htop, ?_, hw.old h3⟩⟩)
        have hg : g ≠ w.heap.size := by have := (Array.getElem?_eq_some_iff.1 h3).1; omega
        have hav : ¬ γ.av g := by
          intro q
          rcases h.h.sp τ _ _ hs with ⟨q1, _⟩ | ⟨g3, _, _, q1, q2, _⟩
          · rw [h2] at q1; cases q1
          · rw [h2] at q1
            obtain rfl := Option.some.inj q1
            rw [(h.h.av.2 g q).2] at q2
            cases q2
        simp [Ghost.O, γ', hg, h2, hav]
      · exact .inr (.inr ⟨tp, by simpa [lookS, e] using hq, Nat.le_refl _, fun g c2 e2 fr h2 h3 => .inl ⟨by simpa [γ', upd, e] using h2, c2, hw.old h3, rfl, fun k _ => rfl⟩⟩)
  refine ⟨γ', h.step hd ev ?_ ?_⟩
  · refine ⟨fun d cs' hl => ?_, h.h.bxd, fun τ tp sz' hq => ?_, fun g x hg => ?_, ⟨h.h.av.1, fun g hg => ?_⟩, hw.frame h.h.frame⟩
    · obtain ⟨g, c', e', h1, h2, h3, h4, h5⟩ := h.h.box d cs' hl
      have hg : g ≠ w.heap.size := by have := (Array.getElem?_eq_some_iff.1 h3).1; omega
      have hg2 : γ.sp σ ≠ some g := fun q => h.h.sp_ne hs q h2 rfl
      exact ⟨g, c', e', h1, by simp [γ', hg, hg2, h2], hw.old h3, h4, fun k hk hk' => (h5 k hk hk').evo ev⟩
    · simp only [List.cons_append, List.nil_append, lookS] at hq
      by_cases e : τ = σ
      · rw [if_pos e] at hq
        cases hq
        refine .inr ⟨w.heap.size, c, _, by simp [γ', upd, e], by simp [γ', e], hw.new, ?_⟩
        rw [hc]; exact Nat.mul_le_mul_right _ hcap
      · rw [if_neg e] at hq
        rcases h.h.sp τ tp sz' hq with h1 | ⟨g, c', e', h1, h2, h3, h4⟩
        · exact .inl (by simpa [γ', upd, e] using h1)
        · have hg : g ≠ w.heap.size := by have := (Array.getElem?_eq_some_iff.1 h3).1; omega
          have hg2 : γ.sp σ ≠ some g := by
            intro q
            rcases h.h.sp σ top sz hs with ⟨q1, _⟩ | ⟨g3, _, _, q1, q2, _⟩
            · rw [q] at q1; cases q1
            · rw [q] at q1
              obtain rfl := Option.some.inj q1
              rw [h2] at q2
              simp at q2
              exact e q2
          exact .inr ⟨g, c', e', by simpa [γ', upd, e] using h1, by simp [γ', hg, hg2, h2], hw.old h3, h4⟩
    · by_cases hgs : g = w.heap.size
      · subst hgs
        exact ⟨by rw [hw.size]; omega, may_new h.h.frame⟩
      · simp only [γ', hgs, if_false] at hg
        split at hg
        · cases hg
        · have := h.h.ow g x hg
          exact ⟨by rw [hw.size]; omega, this.2⟩
    · have := h.h.av.2 g hg
      refine ⟨by rw [hw.size]; omega, ?_⟩
      have hne : g ≠ w.heap.size := by omega
      simp only [γ', hne, if_false]
      split
      · rfl
      · exact this.2
  · refine hxr _ (.own (by simp [lookS]) (.inr ⟨w.heap.size, 0, cap, c, e, (0, 0), us, rfl, hw.new, hcap, hmax, hsz, hlen, fun k hk => by simpa using hus k hk, h1, fun k hk hk' => (hel k hk hk').mono ev.keep,
      .inl ⟨by simp [γ', upd], by simp, fun _ => ⟨rfl, rfl, hc, Nat.le_refl _⟩⟩⟩))

theorem own_grow (h : SRel L n K st γ a w) (hd : dst.ok L n) {σ top sz : Nat} (hs : lookS st.stat σ = some (.own top sz)) {w' : World} {c : Array Value} {e : TypeId} (hw : Pushed w w' (.cells c e (0, 0))) {zs : List V} {cap : Nat} {us : List Value}
    (hcap : zs.length ≤ cap) (hmax : cap ≤ maxLen) (hsz : ∀ x ∈ zs, x.cells.length = sz) (hlen : us.length = (flat zs).length) (hus : ∀ k, k < us.length → c[k]? = us[k]?) (h1 : ∀ u ∈ us, u.oneCell' = true)
    (hel : ∀ k (h : k < (flat zs).length) (h' : k < us.length), PRel γ.O w ((flat zs)[k]) (us[k])) (hc : c.size = cap * sz) (htop : top < zs.length) {cl : Cls} :
    ∃ γ', SRel L n K (Delta.apply { val := .sl (some σ) sz zs, ns := [(σ, some (.own zs.length sz))], cls := cl } st dst) γ' (a.put dst.toOpt (.slice (some ⟨w.heap.size, 0, none⟩) zs.length cap)) w' :=
  own_grow_x h hd hs hw hcap hmax hsz hlen hus h1 hel hc htop (xr := .sl (some σ) sz zs) fun _ q => q

/-- Storage that was lengthened where it lies. -/
theorem own_room_x (h : SRel L n K st γ a w) (hd : dst.ok L n) {σ top sz : Nat} (hs : lookS st.stat σ = some (.own top sz)) {g : Nat} (hg : γ.sp σ = some g) {c c' : Array Value} {e : TypeId} (hgc : w.heap[g]? = some (.cells c e (0, 0))) {zs : List V} {cap : Nat} {us : List Value}
    (hsame : c'.size = c.size) (hpre : ∀ k, k < top * sz → c'[k]? = c[k]?)
    (hcap : zs.length ≤ cap) (hmax : cap ≤ maxLen) (hsz : ∀ x ∈ zs, x.cells.length = sz) (hlen : us.length = (flat zs).length) (hus : ∀ k, k < us.length → c'[k]? = us[k]?) (h1 : ∀ u ∈ us, u.oneCell' = true)
    (hel : ∀ k (h : k < (flat zs).length) (h' : k < us.length), PRel γ.O w ((flat zs)[k]) (us[k])) (hc : c.size = cap * sz) (htop : top ≤ zs.length) {cl : Cls} {xr : V} (hxr : ∀ γ', VRel ((σ, some (.own zs.length sz)) :: st.stat) γ' (w.setRow g c') (.sl (some σ) sz zs) (.slice (some ⟨g, 0, none⟩) zs.length cap) → VRel ((σ, some (.own zs.length sz)) :: st.stat) γ' (w.setRow g c') xr (.slice (some ⟨g, 0, none⟩) zs.length cap)) :
    SRel L n K (Delta.apply { val := xr, ns := [(σ, some (.own zs.length sz))], cls := cl } st dst) γ (a.put dst.toOpt (.slice (some ⟨g, 0, none⟩) zs.length cap)) (w.setRow g c') := by
  have hnew : (w.setRow g c').heap[g]? = some (.cells c' e (0, 0)) := setRow_heap w g c c' e (0, 0) hgc
  have hoth : ∀ k, k ≠ g → (w.setRow g c').heap[k]? = w.heap[k]? := fun k hk => setRow_other w g k c' hk
  have hgow : γ.ow g = some (false, σ) := by
    rcases h.h.sp σ top sz hs with ⟨q1, _⟩ | ⟨g3, _, _, q1, q2, _⟩
    · rw [hg] at q1; cases q1
    · rw [hg] at q1
      obtain rfl := Option.some.inj q1
      exact q2
  have hgO : γ.O g := .inl (by simp [hgow])
  have hsp : ∀ τ tp sz' k, lookS st.stat τ = some (.own tp sz') → γ.sp τ = some k → τ ≠ σ → k ≠ g := by
    intro τ tp sz' k q1 q2 q3
    rcases h.h.sp τ tp sz' q1 with ⟨q4, _⟩ | ⟨g3, _, _, q4, q5, _⟩
    · rw [q2] at q4; cases q4
    · rw [q2] at q4
      obtain rfl := Option.some.inj q4
      rintro rfl
      rw [hgow] at q5
      simp at q5
      exact q3 q5.symm
  have ev : Evo st.stat γ w ((σ, some (.own zs.length sz)) :: st.stat) γ (w.setRow g c') := by
    refine ⟨fun k ob h1 h2 => ⟨h1, ?_⟩, fun d g hd => hd, fun g t q => setRow_typ q, fun τ hq => ?_, fun τ hq => ?_, fun τ tp sz' hq => ?_⟩
    · rw [hoth k (by rintro rfl; exact h1 hgO)]; exact h2
    · have : τ ≠ σ := by rintro rfl; rw [hs] at hq; cases hq
      simpa [lookS, this] using hq
    · have : τ ≠ σ := by rintro rfl; rw [hs] at hq; cases hq
      exact .inl (by simpa [lookS, this] using hq)
    · by_cases e : τ = σ
      · subst e
        rw [hs] at hq
        cases hq
        refine .inr (.inr ⟨zs.length, by simp [lookS], htop, fun k c2 e2 fr h2 h3 => .inl ⟨h2, c', ?_⟩⟩)
        rw [hg] at h2
        obtain rfl := Option.some.inj h2
        rw [hgc] at h3
        cases h3
        exact ⟨hnew, hsame, hpre⟩
      · exact .inr (.inr ⟨tp, by simpa [lookS, e] using hq, Nat.le_refl _, fun k c2 e2 fr h2 h3 => .inl ⟨h2, c2, by rw [hoth k (hsp τ tp sz' k hq h2 e)]; exact h3, rfl, fun _ _ => rfl⟩⟩)
  refine h.step hd ev ?_ ?_
  · refine ⟨fun d cs' hl => ?_, h.h.bxd, fun τ tp sz' hq => ?_, fun k x hk => ?_, ⟨h.h.av.1, fun k hk => by rw [setRow_size]; exact h.h.av.2 k hk⟩, setRow_frame h.h.frame (h.h.ow g _ hgow).2 c'⟩
    · obtain ⟨k, c2, e', h1, h2, h3, h4, h5⟩ := h.h.box d cs' hl
      have hk : k ≠ g := by rintro rfl; rw [hgow] at h2; simp at h2
      exact ⟨k, c2, e', h1, h2, by rw [hoth k hk]; exact h3, h4, fun j hj hj' => (h5 j hj hj').evo ev⟩
    · simp only [List.cons_append, List.nil_append, lookS] at hq
      by_cases e : τ = σ
      · rw [if_pos e] at hq
        cases hq
        refine .inr ⟨g, c', _, by rw [e]; exact hg, by rw [e]; exact hgow, hnew, ?_⟩
        rw [hsame, hc]; exact Nat.mul_le_mul_right _ hcap
      · rw [if_neg e] at hq
        rcases h.h.sp τ tp sz' hq with h1 | ⟨k, c2, e', h1, h2, h3, h4⟩
        · exact .inl h1
        · exact .inr ⟨k, c2, e', h1, h2, by rw [hoth k (hsp τ tp sz' k hq h1 e)]; exact h3, h4⟩
    · have := h.h.ow k x hk
      exact ⟨by rw [setRow_size]; exact this.1, this.2⟩
  · refine hxr _ (.own (by simp [lookS]) (.inr ⟨g, 0, cap, c', e, (0, 0), us, rfl, hnew, hcap, hmax, hsz, hlen, fun k hk => by simpa using hus k hk, h1, fun k hk hk' => (hel k hk hk').mono ev.keep,
      .inl ⟨hg, by simp, fun _ => ⟨rfl, rfl, by omega, Nat.le_refl _⟩⟩⟩))

theorem own_room (h : SRel L n K st γ a w) (hd : dst.ok L n) {σ top sz : Nat} (hs : lookS st.stat σ = some (.own top sz)) {g : Nat} (hg : γ.sp σ = some g) {c c' : Array Value} {e : TypeId} (hgc : w.heap[g]? = some (.cells c e (0, 0))) {zs : List V} {cap : Nat} {us : List Value}
    (hsame : c'.size = c.size) (hpre : ∀ k, k < top * sz → c'[k]? = c[k]?)
    (hcap : zs.length ≤ cap) (hmax : cap ≤ maxLen) (hsz : ∀ x ∈ zs, x.cells.length = sz) (hlen : us.length = (flat zs).length) (hus : ∀ k, k < us.length → c'[k]? = us[k]?) (h1 : ∀ u ∈ us, u.oneCell' = true)
    (hel : ∀ k (h : k < (flat zs).length) (h' : k < us.length), PRel γ.O w ((flat zs)[k]) (us[k])) (hc : c.size = cap * sz) (htop : top ≤ zs.length) {cl : Cls} :
    SRel L n K (Delta.apply { val := .sl (some σ) sz zs, ns := [(σ, some (.own zs.length sz))], cls := cl } st dst) γ (a.put dst.toOpt (.slice (some ⟨g, 0, none⟩) zs.length cap)) (w.setRow g c') :=
  own_room_x h hd hs hg hgc hsame hpre hcap hmax hsz hlen hus h1 hel hc htop (xr := .sl (some σ) sz zs) fun _ q => q

theorem sound_append_own (h : SRel L n K st γ a w) (hd : dst.ok L n) {c : Call} {X Y : Operand} {t e : TypeId} {i : TypeInfo} {z : Value} {x y : AX} (hop : o.op = .call c) (hc : c.callee = .builtin .append) (hargs : c.args.toList = [X, Y]) (hts : c.argTypes.toList = [t, t])
    (ht : P.underlying t = some (.slice e)) (hi : P.info? e = some i) (hz : i.zero = some z) (hzs : z.cells.size = i.size) (hb : 0 < i.bytes) (hx : stripX L X = some x) (hy : stripX L Y = some y)
    {σ top : Nat} {xs : List V} (hX : st.val x = .sl (some σ) i.size xs) (hs : lookS st.stat σ = some (.own top i.size)) (htop : xs.length = top)
    {ys : List V} (hys : (st.val y).elems = some ys) (hal : aliveV st.stat (st.val y)) (hel : ∀ v ∈ ys, v.cells.length = i.size) (hroom : roomOk (xs.length + ys.length) i.bytes) {cl : Cls} :
    Runs P L n K (Delta.apply { val := .sl (some σ) i.size (xs ++ ys), ns := [(σ, some (.own (top + ys.length) i.size))], cls := cl } st dst) dst.toOpt o a w := by
  have rx := stripX_rel h hx
  have ry := stripX_rel h hy
  rw [hX] at rx
  subst htop
  obtain ⟨b, cp, us, ev, q1, q2, q3, q4, q5⟩ := source_cells (aliveV_cases hys hal ry hel) hel
  have hsrc : (b = none ∧ us = []) ∨ ∃ ad, b = some ad ∧ ∀ j u, us[j]? = some u → w.cell? (ad.add j) = some u := by
    rcases q5 with ⟨a1, _, a2⟩ | q5
    · exact .inl ⟨a1, a2⟩
    · exact .inr q5
  obtain ⟨r1, r2, r3⟩ := roomOk_maxLen hroom hb
  have hown : OwnSl γ w σ xs.length i.size true xs (a.eval X) := by
    cases rx with
    | base rx => cases rx
    | own hs' rx => rw [hs] at hs'; cases hs'; exact rx
    | imm hs' _ => rw [hs] at hs'; cases hs'
    | dead hs' _ => rw [hs] at hs'; cases hs'
  have hlen2 : (xs ++ ys).length = xs.length + ys.length := List.length_append
  rcases hown with ⟨hv, rfl⟩ | ⟨g, off, cap, c0, e0, fr, olds, hv, hg, hcap, hmax, hsz, hlen, hus, h1c, helx, hwhere⟩
  · simp only [List.length_nil, Nat.zero_add, List.nil_append] at *
    by_cases h0 : ys.length = 0
    · obtain rfl : ys = [] := List.eq_nil_of_length_eq_zero h0
      have hus : us = [] := List.eq_nil_of_length_eq_zero (by simpa using q1)
      subst hus
      have hf := run_first (P := P) (w := w) (sz := i.size) (m := 0) (b := b) (cp := cp) (us := []) (Nat.zero_mul i.size).symm hsrc w (fun _ => rfl)
      have hrun : (Builtin.append_ #[t, t] o.type #[a.eval X, a.eval Y]).run P w = .ok (.slice none 0 0) w := by
        rw [hv, ev]
        simp [Builtin.append_, run_underlying ht, sizeOf, typeInfo, hi, Builtin.lenOf, hf]
      have hlk : ∀ τ, lookS ((σ, some (.own 0 i.size)) :: st.stat) τ = lookS st.stat τ := by
        intro τ
        by_cases e : τ = σ
        · rw [e, hs]; simp [lookS]
        · simp [lookS, e]
      have ev2 : Evo st.stat γ w ((σ, some (.own 0 i.size)) :: st.stat) γ w := by
        refine ⟨fun g ob h1 h2 => ⟨h1, h2⟩, fun d g hd => hd, fun g t q => q, fun τ hq => by rw [hlk]; exact hq, fun τ hq => .inl (by rw [hlk]; exact hq),
          fun τ top sz' hq => .inr (.inr ⟨top, by rw [hlk]; exact hq, Nat.le_refl _, fun g c e fr h2 h3 => .inl ⟨h2, c, h3, rfl, fun k _ => rfl⟩⟩)⟩
      refine ⟨.slice none 0 0, w, γ, .inl (run_append_call hop hc hargs hts hrun), h.step hd ev2 ?_ (.own (top := 0) (by simp [lookS]) (.inl ⟨rfl, rfl⟩))⟩
      refine ⟨fun d cs' hl => ?_, h.h.bxd, fun τ top sz' hq => ?_, h.h.ow, h.h.av, h.h.frame⟩
      · obtain ⟨g, c', e', h1, h2, h3, h4, h5⟩ := h.h.box d cs' hl
        exact ⟨g, c', e', h1, h2, h3, h4, fun k hk hk' => (h5 k hk hk').evo ev2⟩
      · exact h.h.sp τ top sz' (by rw [← hlk τ]; exact hq)
    · have hr := append_grow (P := P) (w := w) (ty := o.type) ht hi hz (b0 := none) (nn := 0) (cap := 0) (olds := []) (Nat.zero_mul i.size).symm (.inl ⟨rfl, rfl⟩) (cp := cp) (by simpa using q1) hsrc (by omega) (by omega) (growslice_fits (by omega) (by simpa using r3))
      simp only [Nat.zero_add, List.nil_append] at hr
      obtain ⟨γ', h2⟩ := own_grow h hd hs (pushed_drew_alloc w _) (zs := ys) (cap := grownCap w ys.length 0 e) (c := (us ++ (Builtin.zeroCells z.cells (grownCap w ys.length 0 e - ys.length)).toList).toArray) (us := us)
        (grownCap_ge _ _ _ _) (grownCap_le_maxLen _ _ _ _ r1) hel q3 (fun k hk => by simp [List.getElem?_append_left hk]) q2 q4 (by
          have := grownCap_ge w ys.length 0 e
          simp only [List.size_toArray, List.length_append, Array.length_toList, size_zeroCells, hzs, q1, ← Nat.add_mul]
          congr 1; omega) (by omega) (cl := cl) (e := e)
      exact ⟨_, _, γ', .inl (run_append_call hop hc hargs hts (by rw [hv, ev]; exact hr)), h2⟩
  · have hloc : γ.sp σ = some g ∧ off = 0 ∧ fr = (0, 0) ∧ c0.size = cap * i.size := by
      rcases hwhere with ⟨a1, a2, a3⟩ | ⟨a1, a2⟩
      · obtain ⟨b1, b2, b3, b4⟩ := a3 rfl
        exact ⟨a1, b1, b2, b3⟩
      · have := (a2 rfl).2; omega
    obtain ⟨hsp, rfl, rfl, hcs⟩ := hloc
    have hlf := length_flat hsz
    have hszz : ∀ x ∈ xs ++ ys, x.cells.length = i.size := fun x hx => by
      rcases List.mem_append.1 hx with hx | hx
      · exact hsz x hx
      · exact hel x hx
    have hlz : (olds ++ us).length = (flat (xs ++ ys)).length := by rw [flat_append]; simp; omega
    have h1z : ∀ u ∈ olds ++ us, u.oneCell' = true := fun u hu => by
      rcases List.mem_append.1 hu with hu | hu
      · exact h1c u hu
      · exact q2 u hu
    have helz : ∀ k (h : k < (flat (xs ++ ys)).length) (h' : k < (olds ++ us).length), PRel γ.O w ((flat (xs ++ ys))[k]) ((olds ++ us)[k]) := by
      intro k hk hk'
      simp only [flat_append] at hk ⊢
      by_cases q : k < (flat xs).length
      · rw [List.getElem_append_left q, List.getElem_append_left (by omega)]
        exact helx k q (by omega)
      · rw [List.getElem_append_right (by omega), List.getElem_append_right (by omega)]
        simp only [hlen]
        exact q4 _ _ _
    by_cases hfit : xs.length + ys.length ≤ cap
    · have hf2 : xs.length * i.size + us.length ≤ c0.size := by rw [q1, hcs, ← Nat.add_mul]; exact Nat.mul_le_mul_right _ hfit
      have hr := append_room (P := P) (w := w) (ty := o.type) ht hi hg (cp := cp) q1 hsrc q2 hfit hf2
      have h2 := own_room h hd hs hsp hg (c' := (c0.toList.take (xs.length * i.size) ++ us ++ c0.toList.drop (xs.length * i.size + us.length)).toArray) (zs := xs ++ ys) (cap := cap) (us := olds ++ us) (by simp; omega)
        (fun k hk => by simp only [List.getElem?_toArray]; rw [List.append_assoc, List.getElem?_append_left (by simp; omega), List.getElem?_take, if_pos hk]; simp) (by omega) hmax hszz hlz
        (fun k hk => by
          simp only [List.getElem?_toArray]
          rw [List.getElem?_append_left (by simp at hk ⊢; omega)]
          by_cases q : k < olds.length
          · rw [List.getElem?_append_left (by simp; omega), List.getElem?_append_left q, List.getElem?_take, if_pos (by omega)]
            have := hus k q
            simpa using this
          · rw [List.getElem?_append_right (by simp; omega), List.getElem?_append_right (by omega)]
            congr 1
            simp; omega) h1z helz hcs (by omega) (cl := cl)
      rw [hlen2] at h2
      exact ⟨_, _, γ, .inl (run_append_call hop hc hargs hts (by rw [hv, ev]; exact hr)), h2⟩
    · have hold : (some (⟨g, 0, none⟩ : Addr) = none ∧ olds = []) ∨ ∃ ad, some (⟨g, 0, none⟩ : Addr) = some ad ∧ ∀ j u, olds[j]? = some u → w.cell? (ad.add j) = some u := by
        refine .inr ⟨_, rfl, fun j u hu => ?_⟩
        rw [addr_add]
        have hj : j < olds.length := (List.getElem?_eq_some_iff.1 hu).1
        simp only [World.cell?, hg]
        simpa [hu] using hus j hj
      have hr := append_grow (P := P) (w := w) (ty := o.type) ht hi hz (b0 := some ⟨g, 0, none⟩) (nn := xs.length) (cap := cap) (olds := olds) (by omega) hold (cp := cp) q1 hsrc (by omega) (by omega) (growslice_fits (by omega) r3)
      have hge := grownCap_ge w (xs.length + ys.length) cap e
      obtain ⟨γ', h2⟩ := own_grow h hd hs (pushed_drew_alloc w _) (zs := xs ++ ys) (cap := grownCap w (xs.length + ys.length) cap e)
        (c := (olds ++ us ++ (Builtin.zeroCells z.cells (grownCap w (xs.length + ys.length) cap e - (xs.length + ys.length))).toList).toArray) (us := olds ++ us)
        (by omega) (grownCap_le_maxLen _ _ _ _ r1) hszz hlz (fun k hk => by simp only [List.getElem?_toArray]; rw [List.getElem?_append_left hk]) h1z helz (by
          simp only [List.size_toArray, List.length_append, Array.length_toList, size_zeroCells, hzs, q1, hlen, hlf, ← Nat.add_mul]
          congr 1; omega) (by omega) (cl := cl) (e := e)
      rw [hlen2] at h2
      exact ⟨_, _, γ', .inl (run_append_call hop hc hargs hts (by rw [hv, ev]; exact hr)), h2⟩

end ops
end

end Go.Proofs.YtnhhcfbigjpfeaaDoor
