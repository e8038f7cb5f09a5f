/-
  An append to the head of a slice that is owned: what lay behind the prefix is gone.
  'make', and all operations together.
-/
import Derived.Test.YtpcfbgeabehmbaaGreatV06
import Derived.Laws.StructEq
import Derived.Laws.MakeOwn
namespace Go.Proofs.YtpcfbgeabehmbaaGreat
set_option linter.all false

section

section ops
variable {P : Program} {L : Nat → Bool} {n : Nat} {K : Ctx} {st : St} {γ : Ghost} {a : Act} {w : World} {o : Oper} {dst : AD}

/-- A stamp is given up. -/
theorem kill {st : St} (h : SRel L n K st γ a w) (σ : Nat) : SRel L n K { st with stat := (σ, some .dead) :: st.stat } γ a w := by
  have ev : Evo st.stat γ w ((σ, some .dead) :: st.stat) γ w := by
    refine ⟨fun g o h1 h2 => ⟨h1, h2⟩, fun d g h => h, fun τ q => ?_, fun τ q => ?_, fun τ top sz q => ?_⟩
    · by_cases e : τ = σ
      · simp [lookS, e]
      · simpa [lookS, e] using q
    · by_cases e : τ = σ
      · exact .inr (by simp [lookS, e])
      · exact .inl (by simpa [lookS, e] using q)
    · by_cases e : τ = σ
      · exact .inl (by simp [lookS, e])
      · exact .inr (.inr ⟨top, by simpa [lookS, e] using q, Nat.le_refl _, fun g c e fr h1 h2 => .inl ⟨h1, c, h2, rfl, fun k _ => rfl⟩⟩)
  refine ⟨⟨fun d cs hl => ?_, h.h.bxd, fun τ top sz q => ?_, h.h.ow, h.h.av, h.h.frame⟩, h.e.defers, h.e.size, fun t => (h.e.slot t).evo ev⟩
  · obtain ⟨g, c, e, h1, h2, h3, h4, h5⟩ := h.h.box d cs hl
    exact ⟨g, c, e, h1, h2, h3, h4, fun k q1 q2 => (h5 k q1 q2).evo ev⟩
  · by_cases e : τ = σ
    · simp [lookS, e] at q
    · exact h.h.sp τ top sz (by simpa [lookS, e] using q)

theorem kill_apply {δ : Delta} (h : SRel L n K (δ.apply st dst) γ a w) (σ : Nat) : SRel L n K (Delta.apply { δ with ns := (σ, some .dead) :: δ.ns } st dst) γ a w := by
  have := kill h σ
  cases dst <;> exact this

/-- Storage that is written over, and bears a new name. -/
theorem pf_room (h : SRel L n K st γ a w) (hd : dst.ok L n) {σ s top sz : Nat} (hs : lookS st.stat σ = some (.own top sz)) (hs2 : lookS st.stat s = none) {g : Nat} (hg : γ.sp σ = some g) {c c' : Array Value} {e : TypeId} (hgc : w.heap[g]? = some (.cells c e (0, 0))) {zs : List V} {cap : Nat} {us : List Value}
    (hsame : c'.size = c.size)
    (hcap : zs.length ≤ cap) (hmax : cap ≤ maxLen) (hsz : ∀ x ∈ zs, x.cells.length = sz) (hlen : us.length = (flat zs).length) (hus : ∀ k, k < us.length → c'[k]? = us[k]?) (h1 : ∀ u ∈ us, u.oneCell' = true)
    (hel : ∀ k (h : k < (flat zs).length) (h' : k < us.length), PRel γ.O w ((flat zs)[k]) (us[k])) (hc : c.size = cap * sz) {cl : Cls} :
    ∃ γ', SRel L n K (Delta.apply { val := .sl (some s) sz zs, ns := [(σ, some .dead), (s, some (.own zs.length sz))], cls := cl } st dst) γ' (a.put dst.toOpt (.slice (some ⟨g, 0, none⟩) zs.length cap)) (w.setRow g c') := by
  have hnew : (w.setRow g c').heap[g]? = some (.cells c' e (0, 0)) := setRow_heap w g c c' e (0, 0) hgc
  have hoth : ∀ k, k ≠ g → (w.setRow g c').heap[k]? = w.heap[k]? := fun k hk => setRow_other w g k c' hk
  have hgow : γ.ow g = some (false, σ) := by
    rcases h.h.sp σ top sz hs with ⟨q1, _⟩ | ⟨g3, _, _, q1, q2, _⟩
    · rw [hg] at q1; cases q1
    · rw [hg] at q1
      obtain rfl := Option.some.inj q1
      exact q2
  have hgO : γ.O g := .inl (by simp [hgow])
  have hne : ∀ τ x, lookS st.stat τ = some x → τ ≠ s := by rintro τ x hx rfl; rw [hs2] at hx; cases hx
  have hσs : σ ≠ s := hne _ _ hs
  let γ' : Ghost := { γ with sp := upd γ.sp s (some g), ow := upd γ.ow g (some (false, s)) }
  have hO : ∀ k, γ'.O k ↔ γ.O k := fun k => by
    by_cases e : k = g
    · subst e; simp [Ghost.O, γ', upd, hgow]
    · simp [Ghost.O, γ', upd, e]
  have hsp : ∀ τ tp sz' k, lookS st.stat τ = some (.own tp sz') → γ.sp τ = some k → τ ≠ σ → k ≠ g := by
    intro τ tp sz' k q1 q2 q3
    rcases h.h.sp τ tp sz' q1 with ⟨q4, _⟩ | ⟨g3, _, _, q4, q5, _⟩
    · rw [q2] at q4; cases q4
    · rw [q2] at q4
      obtain rfl := Option.some.inj q4
      rintro rfl
      rw [hgow] at q5
      simp at q5
      exact q3 q5.symm
  have ev : Evo st.stat γ w ([(σ, some .dead), (s, some (.own zs.length sz))] ++ st.stat) γ' (w.setRow g c') := by
    refine ⟨fun k ob h1 h2 => ⟨fun q => h1 ((hO k).1 q), ?_⟩, fun d g hd => hd, fun τ hq => ?_, fun τ hq => ?_, fun τ tp sz' hq => ?_⟩
    · rw [hoth k (by rintro rfl; exact h1 hgO)]; exact h2
    · by_cases e : τ = σ
      · simp [lookS, e]
      · simpa [lookS, hne _ _ hq, e] using hq
    · by_cases e : τ = σ
      · exact .inr (by simp [lookS, e])
      · exact .inl (by simpa [lookS, hne _ _ hq, e] using hq)
    · by_cases e : τ = σ
      · exact .inl (by simp [lookS, e])
      · exact .inr (.inr ⟨tp, by simpa [lookS, hne _ _ hq, e] using hq, Nat.le_refl _, fun k c2 e2 fr h2 h3 => .inl ⟨by simpa [γ', upd, hne _ _ hq] using h2, c2, by rw [hoth k (hsp τ tp sz' k hq h2 e)]; exact h3, rfl, fun _ _ => rfl⟩⟩)
  refine ⟨γ', h.step hd ev ?_ ?_⟩
  · refine ⟨fun d cs' hl => ?_, h.h.bxd, fun τ tp sz' hq => ?_, fun k x hk => ?_, ⟨h.h.av.1, fun k hk => ?_⟩, setRow_frame h.h.frame (h.h.ow g _ hgow).2 c'⟩
    · obtain ⟨k, c2, e', h1, h2, h3, h4, h5⟩ := h.h.box d cs' hl
      have hk : k ≠ g := by rintro rfl; rw [hgow] at h2; simp at h2
      exact ⟨k, c2, e', h1, by simpa [γ', upd, hk] using h2, by rw [hoth k hk]; exact h3, h4, fun j hj hj' => (h5 j hj hj').evo ev⟩
    · simp only [List.cons_append, List.nil_append, lookS] at hq
      by_cases e : τ = σ
      · rw [if_pos e] at hq; cases hq
      · rw [if_neg e] at hq
        by_cases e2 : τ = s
        · rw [if_pos e2] at hq
          cases hq
          refine .inr ⟨g, c', _, by simp [γ', upd, e2], by simp [γ', upd, e2], hnew, ?_⟩
          rw [hsame, hc]; exact Nat.mul_le_mul_right _ hcap
        · rw [if_neg e2] at hq
          rcases h.h.sp τ tp sz' hq with h1 | ⟨k, c2, e', h1, h2, h3, h4⟩
          · exact .inl (by simpa [γ', upd, e2] using h1)
          · have hk := hsp τ tp sz' k hq h1 e
            exact .inr ⟨k, c2, e', by simpa [γ', upd, e2] using h1, by simpa [γ', upd, hk] using h2, by rw [hoth k hk]; exact h3, h4⟩
    · by_cases e : k = g
      · subst e
        have := h.h.ow k _ hgow
        exact ⟨by rw [setRow_size]; exact this.1, this.2⟩
      · have := h.h.ow k x (by simpa [γ', upd, e] using hk)
        exact ⟨by rw [setRow_size]; exact this.1, this.2⟩
    · have := h.h.av.2 k hk
      refine ⟨by rw [setRow_size]; exact this.1, ?_⟩
      have hk : k ≠ g := by rintro rfl; rw [hgow] at this; cases this.2
      simpa [γ', upd, hk] using this.2
  · refine .own (top := zs.length) (by simp [lookS, Ne.symm hσs]) (.inr ⟨g, 0, cap, c', e, (0, 0), us, rfl, hnew, hcap, hmax, hsz, hlen, fun k hk => by simpa using hus k hk, h1, fun k hk hk' => (hel k hk hk').mono ev.keep,
      .inl ⟨by simp [γ', upd], by simp, fun _ => ⟨rfl, rfl, by omega, Nat.le_refl _⟩⟩⟩)

theorem sound_append_pf (h : SRel L n K st γ a w) (hd : dst.ok L n) {c : Call} {X Y : Operand} {t e : TypeId} {i : TypeInfo} {z : Value} {x y : AX} (hop : o.op = .call c) (hc : c.callee = .builtin .append) (hargs : c.args.toList = [X, Y]) (hts : c.argTypes.toList = [t, t])
    (ht : P.underlying t = some (.slice e)) (hi : P.info? e = some i) (hz : i.zero = some z) (hzs : z.cells.size = i.size) (hb : 0 < i.bytes) (hx : stripX L X = some x) (hy : stripX L Y = some y)
    {σ top s : Nat} {xs : List V} (hX : st.val x = .vw σ (some top) i.size xs) (hs : lookS st.stat σ = some (.own top i.size)) (hs2 : lookS st.stat s = none)
    {ys : List V} (hys : (st.val y).elems = some ys) (hal : aliveV st.stat (st.val y)) (hel : ∀ v ∈ ys, v.cells.length = i.size) (hroom : roomOk (xs.length + ys.length) i.bytes) {cl : Cls} :
    Runs P L n K (Delta.apply { val := .sl (some s) i.size (xs ++ ys), ns := [(σ, some .dead), (s, some (.own (xs.length + ys.length) i.size))], cls := cl } st dst) dst.toOpt o a w := by
  have rx := stripX_rel h hx
  have ry := stripX_rel h hy
  rw [hX] at rx
  obtain ⟨b, cp, us, ev, q1, q2, q3, q4, q5⟩ := source_cells (aliveV_cases hys hal ry hel) hel
  have hsrc : (b = none ∧ us = []) ∨ ∃ ad, b = some ad ∧ ∀ j u, us[j]? = some u → w.cell? (ad.add j) = some u := by
    rcases q5 with ⟨a1, _, a2⟩ | q5
    · exact .inl ⟨a1, a2⟩
    · exact .inr q5
  obtain ⟨r1, r2, r3⟩ := roomOk_maxLen hroom hb
  have hown : OwnSl γ w σ top i.size false xs (a.eval X) ∧ PfSl γ w σ top i.size xs (a.eval X) := by
    cases rx with
    | base rx => cases rx
    | vown hs' rx _ hp =>
      rw [hs] at hs'; cases hs'
      exact ⟨rx, hp rfl⟩
    | vimm hs' _ => rw [hs] at hs'; cases hs'
    | vdead hs' _ => rw [hs] at hs'; cases hs'
  have hlen2 : (xs ++ ys).length = xs.length + ys.length := List.length_append
  obtain ⟨hown, hpf⟩ := hown
  rcases hpf with ⟨hv, rfl⟩ | ⟨g, cap, c0, e0, hv, hg, hsp, hcs, htop, hcap, hmax⟩
  · simp only [List.length_nil, Nat.zero_add, List.nil_append] at *
    obtain ⟨v, w', γ', hr, h2⟩ := sound_append_nil h hd hop hc hargs hts ht hi hz hzs hb hy hv hys hs2 hal hel hroom (cl := cl)
    exact ⟨v, w', γ', hr, kill_apply h2 σ⟩
  · rcases hown with ⟨hv2, _⟩ | ⟨g', off, cap', c1, e1, fr, olds, hv2, hg', hcap', hmax', hsz, hlen, hus, h1c, helx, hwhere⟩
    · rw [hv] at hv2; cases hv2
    rw [hv] at hv2
    cases hv2
    rw [hg] at hg'
    cases hg'
    have hlf := length_flat hsz
    have hszz : ∀ x ∈ xs ++ ys, x.cells.length = i.size := fun x hx => by
      rcases List.mem_append.1 hx with hx | hx
      · exact hsz x hx
      · exact hel x hx
    have hlz : (olds ++ us).length = (flat (xs ++ ys)).length := by rw [flat_append]; simp; omega
    have h1z : ∀ u ∈ olds ++ us, u.oneCell' = true := fun u hu => by
      rcases List.mem_append.1 hu with hu | hu
      · exact h1c u hu
      · exact q2 u hu
    have helz : ∀ k (h : k < (flat (xs ++ ys)).length) (h' : k < (olds ++ us).length), PRel γ.O w ((flat (xs ++ ys))[k]) ((olds ++ us)[k]) := by
      intro k hk hk'
      simp only [flat_append] at hk ⊢
      by_cases q : k < (flat xs).length
      · rw [List.getElem_append_left q, List.getElem_append_left (by omega)]
        exact helx k q (by omega)
      · rw [List.getElem_append_right (by omega), List.getElem_append_right (by omega)]
        simp only [hlen]
        exact q4 _ _ _
    by_cases hfit : xs.length + ys.length ≤ cap
    · have hf2 : xs.length * i.size + us.length ≤ c0.size := by rw [q1, hcs, ← Nat.add_mul]; exact Nat.mul_le_mul_right _ hfit
      have hr := append_room (P := P) (w := w) (ty := o.type) ht hi hg (cp := cp) q1 hsrc q2 hfit hf2
      obtain ⟨γ', h2⟩ := pf_room h hd hs hs2 hsp hg (c' := (c0.toList.take (xs.length * i.size) ++ us ++ c0.toList.drop (xs.length * i.size + us.length)).toArray) (zs := xs ++ ys) (cap := cap) (us := olds ++ us) (by simp; omega)
        (by omega) hmax hszz hlz
        (fun k hk => by
          simp only [List.getElem?_toArray]
          rw [List.getElem?_append_left (by simp at hk ⊢; omega)]
          by_cases q : k < olds.length
          · rw [List.getElem?_append_left (by simp; omega), List.getElem?_append_left q, List.getElem?_take, if_pos (by omega)]
            have := hus k q
            simpa using this
          · rw [List.getElem?_append_right (by simp; omega), List.getElem?_append_right (by omega)]
            congr 1
            simp; omega) h1z helz hcs (cl := cl)
      rw [hlen2] at h2
      exact ⟨_, _, γ', .inl (run_append_call hop hc hargs hts (by rw [hv, ev]; exact hr)), h2⟩
    · have hold : (some (⟨g, 0, none⟩ : Addr) = none ∧ olds = []) ∨ ∃ ad, some (⟨g, 0, none⟩ : Addr) = some ad ∧ ∀ j u, olds[j]? = some u → w.cell? (ad.add j) = some u := by
        refine .inr ⟨_, rfl, fun j u hu => ?_⟩
        rw [addr_add]
        have hj : j < olds.length := (List.getElem?_eq_some_iff.1 hu).1
        simp only [World.cell?, hg]
        simpa [hu] using hus j hj
      have hr := append_grow (P := P) (w := w) (ty := o.type) ht hi hz (b0 := some ⟨g, 0, none⟩) (nn := xs.length) (cap := cap) (olds := olds) (by omega) hold (cp := cp) q1 hsrc (by omega) (by omega) (growslice_fits (by omega) r3)
      have hge := grownCap_ge w (xs.length + ys.length) cap e
      obtain ⟨γ', h2⟩ := new_own h hd hs2 (pushed_drew_alloc w _) (xs := xs ++ ys) (sz := i.size) (cap := grownCap w (xs.length + ys.length) cap e)
        (c := (olds ++ us ++ (Builtin.zeroCells z.cells (grownCap w (xs.length + ys.length) cap e - (xs.length + ys.length))).toList).toArray) (us := olds ++ us)
        (by omega) (grownCap_le_maxLen _ _ _ _ r1) hszz hlz (fun k hk => by simp only [List.getElem?_toArray]; rw [List.getElem?_append_left hk]) h1z helz (by
          simp only [List.size_toArray, List.length_append, Array.length_toList, size_zeroCells, hzs, q1, hlen, hlf, ← Nat.add_mul]
          congr 1; omega) (cl := cl) (e := e)
      rw [hlen2] at h2
      exact ⟨_, _, γ', .inl (run_append_call hop hc hargs hts (by rw [hv, ev]; exact hr)), kill_apply h2 σ⟩

end ops
end

section

section ops
variable {P : Program} {L : Nat → Bool} {n : Nat} {K : Ctx} {st : St} {γ : Ghost} {a : Act} {w : World} {o : Oper} {dst : AD}

theorem flat_replicate_get {x : V} {sz : Nat} (hx : x.cells.length = sz) (h0 : 0 < sz) : ∀ (m k : Nat) (h : k < (flat (List.replicate m x)).length), (flat (List.replicate m x))[k] = x.cells[k % sz]'(by rw [hx]; exact Nat.mod_lt _ h0)
  | 0, k, h => by simp [flat] at h
  | m + 1, k, h => by
    simp only [List.replicate_succ, flat_cons] at h ⊢
    by_cases hk : k < sz
    · rw [List.getElem_append_left (by omega)]
      simp only [Nat.mod_eq_of_lt hk]
    · rw [List.getElem_append_right (by omega), flat_replicate_get hx h0 m]
      simp only [hx]
      congr 1
      exact (Nat.mod_eq_sub_mod (by omega)).symm

theorem sound_make (h : SRel L n K st γ a w) (hd : dst.ok L n) {t e : TypeId} {i : TypeInfo} {zv : Value} {z : V} {A B : Operand} {x y : AX} (hop : o.op = .makeSlice t A B) (ht : P.underlying t = some (.slice e)) (hi : P.info? e = some i)
    (hz : i.zero = some zv) (hzv : constV zv = some z) (h0 : 0 < i.size) (hb : 0 < i.bytes) (hok : z.okEl = true) (hst : z.stamps = []) (hzl : z.cells.length = i.size) (hx : stripX L A = some x) (hy : stripX L B = some y)
    {d : Nat} {p : Prop} {δ : Delta} (hδ : astep st d (.make i.size i.bytes z x y) = some (p, δ)) (hp : p) : Runs P L n K (δ.apply st dst) dst.toOpt o a w := by
  have rx := stripX_rel h hx
  have ry := stripX_rel h hy
  simp only [astep] at hδ
  split at hδ <;> first | (simp only [Option.some.injEq, Prod.mk.injEq] at hδ; obtain ⟨rfl, rfl⟩ := hδ) | cases hδ
  rename_i k1 m k2 c e1 e2
  rw [e1] at rx; rw [e2] at ry
  obtain ⟨p1, p2, p3, p4⟩ := hp
  obtain ⟨r1, r2, r3⟩ := roomOk_maxLen p3 hb
  obtain ⟨q1, q2, q3⟩ := (constV_rel hzv st.stat γ w).er hok (by rw [hst]; simp)
  have hzs : zv.cells.size = i.size := by rw [q1, V.er_cells]; simpa using hzl
  have hel : z.er.cells.length = i.size := by rw [V.er_cells]; simpa using hzl
  generalize hcells : madeCells zv.cells (c.toNat * i.size) = cells
  have hget : ∀ k, k < c.toNat * i.size → cells[k]? = some (zv.cells[k % i.size]'(by rw [hzs]; exact Nat.mod_lt _ h0)) := by
    intro k hk
    rw [← hcells]
    unfold madeCells
    have hlt : k % i.size < zv.cells.size := by rw [hzs]; exact Nat.mod_lt _ h0
    have hlt2 : k % zv.cells.size < zv.cells.size := by rw [hzs]; rw [hzs] at hlt; exact hlt
    rw [Array.getElem?_map, Array.getElem?_range]
    rw [if_pos hk]
    simp only [Option.map_some, Option.some.injEq]
    rw [getElem!_pos zv.cells _ hlt2]
    congr 1
    rw [hzs]
  have hcs : cells.size = c.toNat * i.size := by rw [← hcells, size_madeCells]
  have hmc : m.toNat * i.size ≤ c.toNat * i.size := Nat.mul_le_mul_right _ (by omega)
  have hfl : (flat (List.replicate m.toNat z.er)).length = m.toNat * i.size := by
    have := length_flat (xs := List.replicate m.toNat z.er) (sz := i.size) (fun x hx => by rw [List.eq_of_mem_replicate hx]; exact hel)
    simpa using this
  let us : List Value := (List.range (m.toNat * i.size)).map fun k => zv.cells[k % i.size]'(by rw [hzs]; exact Nat.mod_lt _ h0)
  obtain ⟨γ', h2⟩ := new_own h hd p4 (pushed_alloc w (.cells cells e)) (xs := List.replicate m.toNat z.er) (sz := i.size) (cap := c.toNat) (us := us)
    (by simp; omega) r1 (fun x hx => by rw [List.eq_of_mem_replicate hx]; exact hel) (by rw [hfl]; simp [us])
    (fun k hk => by
      have hk' : k < m.toNat * i.size := by simpa [us] using hk
      rw [hget k (by omega)]
      simp [us, hk'])
    (fun u hu => by
      obtain ⟨k, hk, rfl⟩ := List.mem_map.1 hu
      exact q3 _ (Array.getElem_mem _))
    (fun k hk hk' => by
      rw [flat_replicate_get hel h0]
      simp only [us, List.getElem_map, List.getElem_range]
      exact q2 _ _ _) hcs (cl := .n)
  have hrun : (Instr.makeSlice t (a.eval A) (a.eval B)).run P w = .ok (.slice (some ⟨w.heap.size, 0, none⟩) m.toNat c.toNat) (w.alloc (.cells cells e)) := by
    have hbc : (i.bytes : Int) * c ≤ 281474976710656 := by
      have : ((c.toNat * i.bytes : Nat) : Int) ≤ 281474976710656 := by omega
      rw [Int.natCast_mul, Int.toNat_of_nonneg (by omega), Int.mul_comm] at this
      exact this
    rw [rx.int_inv, ry.int_inv, ← hcells]
    exact run_make w t e i zv ht hi hz k1 k2 m c p1 p2 hbc (by omega)
  refine ⟨_, _, γ',   .inl (?_ : _ = Result.ok (Next.value (Value.slice (some ⟨w.heap.size, 0, none⟩) m.toNat c.toNat)) (w.alloc (Obj.cells cells e))), by simp only [List.length_replicate] at h2; exact h2⟩
  rw [show execOp a.eval o = (do pure (Next.value (← Instr.makeSlice t (a.eval A) (a.eval B)))) from by simp only [execOp, hop]]
  exact exec_value hrun

theorem flatF_run {S : Stats} {as bs : List V} {us vs : List Value} (ha : CellsRel S γ w as us) (hb : CellsRel S γ w bs vs) {e : Nat} : ∀ {fs : List Field} {i : Nat} {ks : List Nat}, flatF P i fs = some ks → as.length = i + fs.length → bs.length = i + fs.length →
    eqK ks (as.drop i) (bs.drop i) → (Op.eqFields (e + 1) us.toArray vs.toArray fs).run P w = .ok (eqC (as.drop i) (bs.drop i)) w
  | [], i, ks, h, h1, h2, hk => by
    rw [List.drop_of_length_le (by simp at h1; omega), List.drop_of_length_le (by simp at h2; omega)]
    rfl
  | f :: r, i, ks, h, h1, h2, hk => by
    simp only [flatF] at h
    split at h <;> try (cases h; done)
    rename_i l u e1 e2 e3 e4
    split at h <;> try (cases h; done)
    rename_i q
    simp only [List.length_cons] at h1 h2
    have ia : i < as.length := by omega
    have ib : i < bs.length := by omega
    rw [List.drop_eq_getElem_cons ia, List.drop_eq_getElem_cons ib] at hk ⊢
    have ih := flatF_run ha hb (e := e) e1 (by omega) (by omega)
    obtain ⟨pu, ru, vu⟩ := part_rel (P := P) ha (t := f.type) (off := i) e2 e3 (.inr rfl) (by omega)
    obtain ⟨pv, rv, vv⟩ := part_rel (P := P) hb (t := f.type) (off := i) e2 e3 (.inr rfl) (by omega)
    have gu : part false 1 i as = as[i] := by simp [part, List.getD_eq_getElem?_getD, ia]
    have gv : part false 1 i bs = bs[i] := by simp [part, List.getD_eq_getElem?_getD, ib]
    rw [gu] at vu
    rw [gv] at vv
    have key : ∀ {c : Bool} {tl : Bool}, (Op.equalIn (e + 1) f.type pu pv).run P w = .ok c w → (c = true → (Op.eqFields (e + 1) us.toArray vs.toArray r).run P w = .ok tl w) →
        (Op.eqFields (e + 1) us.toArray vs.toArray (f :: r)).run P w = .ok (c && tl) w := fun {c tl} h3 h4 => by
      simp only [Op.eqFields, q.1, ne_eq, not_false_eq_true, if_true, Sem.run_bind, q.2, ru, rv, Result.andThen, h3]
      cases c with
      | false => simp
      | true => simpa using h4 rfl
    generalize as[i] = x at vu hk ⊢
    generalize bs[i] = y at vv hk ⊢
    have hk0 : ∃ k, ks = k :: l ∧ ((k = 0 ∧ ∃ k0, u = .int k0) ∨ (k = 1 ∧ u = .bool) ∨ (k = 2 ∧ u = .string)) := by
      cases u <;> first | (cases h; done) | (obtain rfl := Option.some.inj h; simp)
    obtain ⟨k, rfl, hu⟩ := hk0
    simp only [eqK] at hk
    obtain ⟨hk1, hk2⟩ := hk
    simp only [eqC]
    refine key (c := eqC1 x y) ?_ (fun _ => ih hk2)
    cases x <;> cases y <;> simp only [eqK1] at hk1 <;> first | exact hk1.elim | skip
    · subst hk1
      obtain rfl := vu.bool_inv
      obtain rfl := vv.bool_inv
      rcases hu with ⟨q, _⟩ | ⟨_, rfl⟩ | ⟨q, _⟩ <;> first | cases q | skip
      exact run_equalIn_bool' w e f.type _ _ e4
    · obtain ⟨rfl, rfl⟩ := hk1
      obtain rfl := vu.int_inv
      obtain rfl := vv.int_inv
      rcases hu with ⟨_, k0, rfl⟩ | ⟨q, _⟩ | ⟨q, _⟩ <;> first | cases q | skip
      rw [run_equalIn_int w e f.type _ k0 _ _ e4]; rfl
    · subst hk1
      obtain ⟨s, rfl, rfl⟩ := vu.str_inv
      obtain ⟨t, rfl, rfl⟩ := vv.str_inv
      rcases hu with ⟨q, _⟩ | ⟨q, _⟩ | ⟨_, rfl⟩ <;> first | cases q | skip
      rw [run_equalIn_string w e f.type s t e4, ByteArray.toList_eq, ByteArray.toList_eq]
      congr 1
      rw [Bool.eq_iff_iff]; simp [eqC1]

theorem eqK_len : ∀ {ks : List Nat} {a b : List V}, eqK ks a b → a.length = ks.length ∧ b.length = ks.length
  | [], [], [], _ => ⟨rfl, rfl⟩
  | k :: r, x :: a, y :: b, h => by have := eqK_len h.2; simp [this]
  | [], _ :: _, _, h => h.elim
  | [], [], _ :: _, h => h.elim
  | n :: r, [], _, h => h.elim
  | n :: r, x :: a, [], h => h.elim

theorem flatF_len : ∀ {fs : List Field} {i : Nat} {ks : List Nat}, flatF P i fs = some ks → fs.length = ks.length
  | [], i, ks, h => by simp [flatF] at h; subst h; rfl
  | f :: r, i, ks, h => by
    simp only [flatF] at h
    split at h <;> try (cases h; done)
    rename_i l u e1 e2 e3 e4
    split at h <;> try (cases h; done)
    have := flatF_len e1
    split at h <;> first | (obtain rfl := Option.some.inj h; simp [this]) | cases h

theorem sound_eqs (h : SRel L n K st γ a w) (hd : dst.ok L n) {op : BinOp} {neg : Bool} (hneg : op = if neg then .neq else .eql) {t t' : TypeId} {X Y : Operand} {x y : AX} {fs : Array Field} {ks : List Nat} (hop : o.op = .binOp op t X Y t')
    (ht : P.underlying t = some (.struct fs)) (hk : flatF P 0 fs.toList = some ks) (hg : P.eqGuardType P.depth t = false) (hh : P.stoodInHeld t = false) (hx : stripX L X = some x) (hy : stripX L Y = some y)
    {d : Nat} {p : Prop} {δ : Delta} (hδ : astep st d (.eqs neg ks x y) = some (p, δ)) (hp : p) : Runs P L n K (δ.apply st dst) dst.toOpt o a w := by
  have rx := stripX_rel h hx
  have ry := stripX_rel h hy
  simp only [astep] at hδ
  split at hδ <;> try (cases hδ; done)
  rename_i as bs e1 e2
  simp only [Option.some.injEq, Prod.mk.injEq] at hδ
  obtain ⟨rfl, rfl⟩ := hδ
  rw [e1] at rx
  rw [e2] at ry
  obtain ⟨us, hu, hul, hue⟩ := rx.agg_inv
  obtain ⟨vs, hv, hvl, hve⟩ := ry.agg_inv
  have hfo : P.fieldsOf t = fs := by simp [Program.fieldsOf, ht]
  obtain ⟨l1, l2⟩ := eqK_len hp
  have l3 := flatF_len hk
  have hrun : (Op.equalIn 10000 t (.agg us.toArray) (.agg vs.toArray)).run P w = .ok (eqC as bs) w := by
    rw [run_equalIn_struct w 9999 t us.toArray vs.toArray (by rw [hfo]; exact ht) hh, hfo]
    have := flatF_run (P := P) (S := st.stat) (γ := γ) (w := w) (as := as) (bs := bs) ⟨hul, hue⟩ ⟨hvl, hve⟩ (e := 9998) hk (by omega) (by omega) (by simpa using hp)
    simpa using this
  refine Runs.pure h hd (.base (.bool _)) ?_
  cases neg with
  | false =>
    obtain rfl : op = .eql := hneg
    simp [execOp, hop, hu, hv, run_eqGuard_agg w _ t X Y us.toArray vs.toArray hg, run_eql_struct, hrun, Result.andThen]
  | true =>
    obtain rfl : op = .neq := hneg
    simp [execOp, hop, hu, hv, run_eqGuard_agg w _ t X Y us.toArray vs.toArray hg, run_neq_struct, hrun, Result.andThen]

/-- Every operation but a call of a function: what the abstract machine does, the model does. -/
theorem sound_op (h : SRel L n K st γ a w) (hd : dst.ok L n) {op : AO} (hs : stripO P L o.op = some op) {d : Nat} {p : Prop} {δ : Delta} (hδ : astep st d op = some (p, δ)) (hp : p) :
    Runs P L n K (δ.apply st dst) dst.toOpt o a w := by
  have hs0 := hs
  unfold stripO at hs
  split at hs
  case h_1 x hop =>
    obtain ⟨y, hy, rfl⟩ := Option.map_eq_some_iff.1 hs
    exact sound_mv h hd (.inl hop) hy hδ hp
  case h_2 x hop =>
    obtain ⟨y, hy, rfl⟩ := Option.map_eq_some_iff.1 hs
    exact sound_mv h hd (.inr hop) hy hδ hp
  case h_3 c x y hop =>
    split at hs <;> first | (obtain rfl := Option.some.inj hs) | cases hs
    exact sound_pick h hd hop ‹_› ‹_› ‹_› hδ hp
  case h_4 t hop =>
    obtain ⟨y, hy, rfl⟩ := Option.map_eq_some_iff.1 hs
    exact sound_alloc h hd hop hy hδ hp
  case h_5 t x hop =>
    obtain ⟨y, hy, rfl⟩ := Option.map_eq_some_iff.1 hs
    exact sound_box h hd hop hy hδ hp
  case h_6 t parts hop =>
    exact sound_build h hd hop (by rw [hop] at hs0; exact hs0) hδ hp
  case h_7 t m parts hop =>
    split at hs <;> try (cases hs; done)
    split at hs <;> try (cases hs; done)
    split at hs <;> first | (obtain rfl := Option.some.inj hs) | cases hs
    rename_i q
    exact sound_lits h hd hop ‹_› ‹_› ‹_› ‹_› q.1 q.2 hδ hp
  case h_8 t x hop =>
    split at hs <;> try (cases hs; done)
    split at hs <;> first | (obtain rfl := Option.some.inj hs) | cases hs
    exact sound_load h hd hop ‹_› ‹_› ‹_› ‹_› hδ hp
  case h_9 t x y hop =>
    split at hs <;> first | (obtain rfl := Option.some.inj hs) | cases hs
    exact sound_store h hd hop ‹_› ‹_› ‹_› hδ hp
  case h_10 x hop =>
    obtain ⟨y, hy, rfl⟩ := Option.map_eq_some_iff.1 hs
    exact sound_nilc h hd hop hy hδ hp
  case h_11 bop t x y t' hop =>
    split at hs
    · split at hs <;> first | (obtain rfl := Option.some.inj hs) | cases hs
      · exact sound_beq (neg := false) h hd hop ‹_› ‹_› ‹_› hδ hp
      · exact sound_beq (neg := true) h hd hop ‹_› ‹_› ‹_› hδ hp
    · split at hs <;> try (cases hs; done)
      · split at hs <;> first | (obtain rfl := Option.some.inj hs) | cases hs
        rename_i q
        exact sound_eqs (neg := false) h hd rfl hop ‹_› ‹_› q.1 q.2 ‹_› ‹_› hδ hp
      · split at hs <;> first | (obtain rfl := Option.some.inj hs) | cases hs
        rename_i q
        exact sound_eqs (neg := true) h hd rfl hop ‹_› ‹_› q.1 q.2 ‹_› ‹_› hδ hp
    · obtain rfl := Option.some.inj hs
      exact sound_bin h hd hop ‹_› ‹_› hδ hp
    · cases hs
  case h_12 uop t x hop =>
    obtain ⟨y, hy, rfl⟩ := Option.map_eq_some_iff.1 hs
    exact sound_un h hd hop hy hδ hp
  case h_13 src t x hop =>
    split at hs
    · obtain rfl := Option.some.inj hs
      exact sound_conv h hd hop ‹_› ‹_› ‹_› hδ hp
    · split at hs <;> first | (obtain rfl := Option.some.inj hs) | cases hs
      exact sound_toStr h hd hop ‹_› ‹_› ‹_› ‹_› hδ hp
    · cases hs
  case h_14 f first cap hop =>
    split at hs <;> try (cases hs; done)
    obtain ⟨y, hy, rfl⟩ := Option.map_eq_some_iff.1 hs
    exact sound_mkfn h hd hop ‹_› hy hδ hp
  case h_15 t l c hop =>
    split at hs <;> try (cases hs; done)
    split at hs <;> try (cases hs; done)
    split at hs <;> first | (obtain rfl := Option.some.inj hs) | cases hs
    rename_i i z zs x y hi hzv hzt hx hy q
    obtain ⟨q1, q2, q3, q4, q5, q6⟩ := q
    have hz : ∃ zv, i.zero = some zv ∧ constV zv = some z := by
      unfold zeroV at hzv
      rw [hi] at hzv
      simp only at hzv
      split at hzv
      · exact ⟨_, ‹_›, hzv⟩
      · cases hzv
    obtain ⟨zv, hz1, hz2⟩ := hz
    exact sound_make h hd hop ‹_› hi hz1 hz2 q2 q3 q4 q5 q6 hx hy hδ hp
  case h_16 t x lo hi hop =>
    split at hs
    · obtain rfl := Option.some.inj hs
      exact sound_cutStr h hd hop ‹_› ‹_› ‹_› ‹_› hδ hp
    · split at hs <;> first | (obtain rfl := Option.some.inj hs) | cases hs
      exact sound_cutSl h hd hop ‹_› ‹_› ‹_› ‹_› ‹_› hδ hp
    · cases hs
  case h_17 t x f hop =>
    split at hs <;> try (cases hs; done)
    split at hs <;> try (cases hs; done)
    split at hs <;> try (cases hs; done)
    split at hs <;> first | (obtain rfl := Option.some.inj hs) | cases hs
    exact sound_faddr h hd hop ‹_› ‹_› ‹_› ‹_› ‹_› hδ hp
  case h_18 t x f hop =>
    split at hs <;> try (cases hs; done)
    split at hs <;> try (cases hs; done)
    split at hs <;> try (cases hs; done)
    split at hs <;> first | (obtain rfl := Option.some.inj hs) | cases hs
    exact sound_field h hd hop ‹_› ‹_› ‹_› ‹_› ‹_› ‹_› hδ hp
  case h_19 t x i hop =>
    split at hs <;> try (cases hs; done)
    · obtain ⟨y, hy, rfl⟩ := Option.map_eq_some_iff.1 hs
      exact sound_elS h hd hop ‹_› hy ‹_› ‹_› hδ hp
    · obtain ⟨y, hy, rfl⟩ := Option.map_eq_some_iff.1 hs
      exact sound_elA h hd hop ‹_› hy ‹_› ‹_› hδ hp
  case h_20 t x i hop =>
    split at hs
    · obtain rfl := Option.some.inj hs
      exact sound_idxStr h hd hop ‹_› ‹_› ‹_› hδ hp
    · split at hs <;> try (cases hs; done)
      split at hs <;> first | (obtain rfl := Option.some.inj hs) | cases hs
      exact sound_idxArr h hd hop ‹_› ‹_› ‹_› ‹_› ‹_› ‹_› hδ hp
    · cases hs
  case h_21 x i hop =>
    obtain ⟨y, hy, rfl⟩ := Option.map_eq_some_iff.1 hs
    exact sound_extract h hd hop hy hδ hp
  case h_22 b args ts hop =>
    split at hs <;> try (cases hs; done)
    rename_i l hl
    unfold stripBuiltin at hs
    split at hs
    · obtain ⟨x, r, e1, e2, e3⟩ := stripXs_cons hl
      obtain rfl := stripXs_nil e3
      split at hs <;> first | (obtain rfl := Option.some.inj hs) | cases hs
      · exact sound_lenStr h hd hop rfl e1 ‹_› ‹_› e2 hδ hp
      · exact sound_len h hd hop rfl e1 ‹_› ‹_› e2 hδ hp
      · exact sound_lenArr h hd hop rfl e1 ‹_› ‹_› hδ hp
    · obtain ⟨x, r, e1, e2, e3⟩ := stripXs_cons hl
      obtain ⟨x2, r2, e4, e5, e6⟩ := stripXs_cons e3
      obtain rfl := stripXs_nil e6
      subst e4
      obtain rfl := Option.some.inj hs
      exact sound_min h hd hop rfl e1 e2 e5 hδ hp
    · obtain ⟨x, r, e1, e2, e3⟩ := stripXs_cons hl
      obtain ⟨x2, r2, e4, e5, e6⟩ := stripXs_cons e3
      obtain rfl := stripXs_nil e6
      subst e4
      obtain rfl := Option.some.inj hs
      exact sound_max h hd hop rfl e1 e2 e5 hδ hp
    · obtain ⟨x, r, e1, e2, e3⟩ := stripXs_cons hl
      obtain ⟨x2, r2, e4, e5, e6⟩ := stripXs_cons e3
      obtain rfl := stripXs_nil e6
      subst e4
      split at hs <;> try (cases hs; done)
      · rename_i el el2 hu1 hu2
        split at hs <;> try (cases hs; done)
        split at hs <;> try (cases hs; done)
        split at hs <;> first | (obtain rfl := Option.some.inj hs) | cases hs
        rename_i q
        obtain ⟨rfl, q2, q3⟩ := q
        clear hu2
        have hδ0 := hδ
        simp only [astep] at hδ
        split at hδ <;> try (cases hδ; done)
        split at hδ <;> try (cases hδ; done)
        · rename_i ys hys hX
          simp only [Option.some.injEq, Prod.mk.injEq] at hδ
          obtain ⟨rfl, rfl⟩ := hδ
          obtain ⟨p1, p2, p3, p4⟩ := hp
          have := stripX_rel h e2
          rw [hX] at this
          exact sound_append_nil h hd hop rfl e1 ‹_› ‹_› ‹_› ‹_› q2 q3 e5 this.nils_inv ‹_› p1 p2 p3 p4
        · rename_i ys hys σ sz' xs hX
          split at hδ <;> try (cases hδ; done)
          rename_i top sz'' hS
          simp only [Option.some.injEq, Prod.mk.injEq] at hδ
          obtain ⟨rfl, rfl⟩ := hδ
          obtain ⟨rfl, rfl, p2, p3, p4, p5⟩ := hp
          exact sound_append_own h hd hop rfl e1 ‹_› ‹_› ‹_› ‹_› q2 q3 e2 e5 hX hS p5 ‹_› p2 p3 p4
        · rename_i ys hys σ tt sz' xs hX
          split at hδ <;> try (cases hδ; done)
          rename_i top sz'' hS
          simp only [Option.some.injEq, Prod.mk.injEq] at hδ
          obtain ⟨rfl, rfl⟩ := hδ
          obtain ⟨rfl, rfl, rfl, p2, p3, p4, p5⟩ := hp
          exact sound_append_pf h hd hop rfl e1 ‹_› ‹_› ‹_› ‹_› q2 q3 e2 e5 hX hS p5 ‹_› p2 p3 p4
      · obtain rfl := Option.some.inj hs
        simp [astep] at hδ
    · cases hs
  case h_23 f args ts hop =>
    split at hs <;> first | (obtain rfl := Option.some.inj hs) | cases hs
    · simp [astep] at hδ
    · simp [astep] at hδ
  case h_24 => cases hs

end ops
end

end Go.Proofs.YtpcfbgeabehmbaaGreat
