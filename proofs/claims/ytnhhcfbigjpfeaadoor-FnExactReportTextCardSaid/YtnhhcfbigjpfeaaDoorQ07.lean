/-
  An append to the head of a slice that is owned: what lay behind the prefix is gone.
  A string appended to bytes that are owned, in a block of a known type: the buffer of a builder.
-/
import Derived.Test.YtnhhcfbigjpfeaaDoorQ06
import Derived.Lib.AppendStr
namespace Go.Proofs.YtnhhcfbigjpfeaaDoor
set_option linter.all false

section

section ops
variable {P : Program} {L : Nat → Bool} {n : Nat} {K : Ctx} {st : St} {γ : Ghost} {a : Act} {w : World} {o : Oper} {dst : AD}

/-- A stamp is given up. -/
theorem kill {st : St} (h : SRel L n K st γ a w) (σ : Nat) : SRel L n K { st with stat := (σ, some .dead) :: st.stat } γ a w := by
  have ev : Evo st.stat γ w ((σ, some .dead) :: st.stat) γ w := by
    refine ⟨fun g o h1 h2 => ⟨h1, h2⟩, fun d g h => h, fun g t q => q, fun τ q => ?_, fun τ q => ?_, fun τ top sz q => ?_⟩
    · by_cases e : τ = σ
      · simp [lookS, e]
      · simpa [lookS, e] using q
    · by_cases e : τ = σ
      · exact .inr (by simp [lookS, e])
      · exact .inl (by simpa [lookS, e] using q)
    · by_cases e : τ = σ
      · exact .inl (by simp [lookS, e])
      · exact .inr (.inr ⟨top, by simpa [lookS, e] using q, Nat.le_refl _, fun g c e fr h1 h2 => .inl ⟨h1, c, h2, rfl, fun k _ => rfl⟩⟩)
  refine ⟨⟨fun d cs hl => ?_, h.h.bxd, fun τ top sz q => ?_, h.h.ow, h.h.av, h.h.frame⟩, h.e.defers, h.e.size, fun t => (h.e.slot t).evo ev⟩
  · obtain ⟨g, c, e, h1, h2, h3, h4, h5⟩ := h.h.box d cs hl
    exact ⟨g, c, e, h1, h2, h3, h4, fun k q1 q2 => (h5 k q1 q2).evo ev⟩
  · by_cases e : τ = σ
    · simp [lookS, e] at q
    · exact h.h.sp τ top sz (by simpa [lookS, e] using q)

theorem kill_apply {δ : Delta} (h : SRel L n K (δ.apply st dst) γ a w) (σ : Nat) : SRel L n K (Delta.apply { δ with ns := (σ, some .dead) :: δ.ns } st dst) γ a w := by
  have := kill h σ
  cases dst <;> exact this

/-- Storage that is written over, and bears a new name. -/
theorem pf_room (h : SRel L n K st γ a w) (hd : dst.ok L n) {σ s top sz : Nat} (hs : lookS st.stat σ = some (.own top sz)) (hs2 : lookS st.stat s = none) {g : Nat} (hg : γ.sp σ = some g) {c c' : Array Value} {e : TypeId} (hgc : w.heap[g]? = some (.cells c e (0, 0))) {zs : List V} {cap : Nat} {us : List Value}
    (hsame : c'.size = c.size)
    (hcap : zs.length ≤ cap) (hmax : cap ≤ maxLen) (hsz : ∀ x ∈ zs, x.cells.length = sz) (hlen : us.length = (flat zs).length) (hus : ∀ k, k < us.length → c'[k]? = us[k]?) (h1 : ∀ u ∈ us, u.oneCell' = true)
    (hel : ∀ k (h : k < (flat zs).length) (h' : k < us.length), PRel γ.O w ((flat zs)[k]) (us[k])) (hc : c.size = cap * sz) {cl : Cls} :
    ∃ γ', SRel L n K (Delta.apply { val := .sl (some s) sz zs, ns := [(σ, some .dead), (s, some (.own zs.length sz))], cls := cl } st dst) γ' (a.put dst.toOpt (.slice (some ⟨g, 0, none⟩) zs.length cap)) (w.setRow g c') := by
  have hnew : (w.setRow g c').heap[g]? = some (.cells c' e (0, 0)) := setRow_heap w g c c' e (0, 0) hgc
  have hoth : ∀ k, k ≠ g → (w.setRow g c').heap[k]? = w.heap[k]? := fun k hk => setRow_other w g k c' hk
  have hgow : γ.ow g = some (false, σ) := by
    rcases h.h.sp σ top sz hs with ⟨q1, _⟩ | ⟨g3, _, _, q1, q2, _⟩
    · rw [hg] at q1; cases q1
    · rw [hg] at q1
      obtain rfl := Option.some.inj q1
      exact q2
  have hgO : γ.O g := .inl (by simp [hgow])
  have hne : ∀ τ x, lookS st.stat τ = some x → τ ≠ s := by rintro τ x hx rfl; rw [hs2] at hx; cases hx
  have hσs : σ ≠ s := hne _ _ hs
  let γ' : Ghost := { γ with sp := upd γ.sp s (some g), ow := upd γ.ow g (some (false, s)) }
  have hO : ∀ k, γ'.O k ↔ γ.O k := fun k => by
    by_cases e : k = g
    · subst e; simp [Ghost.O, γ', upd, hgow]
    · simp [Ghost.O, γ', upd, e]
  have hsp : ∀ τ tp sz' k, lookS st.stat τ = some (.own tp sz') → γ.sp τ = some k → τ ≠ σ → k ≠ g := by
    intro τ tp sz' k q1 q2 q3
    rcases h.h.sp τ tp sz' q1 with ⟨q4, _⟩ | ⟨g3, _, _, q4, q5, _⟩
    · rw [q2] at q4; cases q4
    · rw [q2] at q4
      obtain rfl := Option.some.inj q4
      rintro rfl
      rw [hgow] at q5
      simp at q5
      exact q3 q5.symm
  have ev : Evo st.stat γ w ([(σ, some .dead), (s, some (.own zs.length sz))] ++ st.stat) γ' (w.setRow g c') := by
    refine ⟨fun k ob h1 h2 => ⟨fun q => h1 ((hO k).1 q), ?_⟩, fun d g hd => hd, fun g t q => setRow_typ q, fun τ hq => ?_, fun τ hq => ?_, fun τ tp sz' hq => ?_⟩
    · rw [hoth k (by rintro rfl; exact h1 hgO)]; exact h2
    · by_cases e : τ = σ
      · simp [lookS, e]
      · simpa [lookS, hne _ _ hq, e] using hq
    · by_cases e : τ = σ
      · exact .inr (by simp [lookS, e])
      · exact .inl (by simpa [lookS, hne _ _ hq, e] using hq)
    · by_cases e : τ = σ
      · exact .inl (by simp [lookS, e])
      · exact .inr (.inr ⟨tp, by simpa [lookS, hne _ _ hq, e] using hq, Nat.le_refl _, fun k c2 e2 fr h2 h3 => .inl ⟨by simpa [γ', upd, hne _ _ hq] using h2, c2, by rw [hoth k (hsp τ tp sz' k hq h2 e)]; exact h3, rfl, fun _ _ => rfl⟩⟩)
  refine ⟨γ', h.step hd ev ?_ ?_⟩
  · refine ⟨fun d cs' hl => ?_, h.h.bxd, fun τ tp sz' hq => ?_, fun k x hk => ?_, ⟨h.h.av.1, fun k hk => ?_⟩, setRow_frame h.h.frame (h.h.ow g _ hgow).2 c'⟩
    · obtain ⟨k, c2, e', h1, h2, h3, h4, h5⟩ := h.h.box d cs' hl
      have hk : k ≠ g := by rintro rfl; rw [hgow] at h2; simp at h2
      exact ⟨k, c2, e', h1, by simpa [γ', upd, hk] using h2, by rw [hoth k hk]; exact h3, h4, fun j hj hj' => (h5 j hj hj').evo ev⟩
    · simp only [List.cons_append, List.nil_append, lookS] at hq
      by_cases e : τ = σ
      · rw [if_pos e] at hq; cases hq
      · rw [if_neg e] at hq
        by_cases e2 : τ = s
        · rw [if_pos e2] at hq
          cases hq
          refine .inr ⟨g, c', _, by simp [γ', upd, e2], by simp [γ', upd, e2], hnew, ?_⟩
          rw [hsame, hc]; exact Nat.mul_le_mul_right _ hcap
        · rw [if_neg e2] at hq
          rcases h.h.sp τ tp sz' hq with h1 | ⟨k, c2, e', h1, h2, h3, h4⟩
          · exact .inl (by simpa [γ', upd, e2] using h1)
          · have hk := hsp τ tp sz' k hq h1 e
            exact .inr ⟨k, c2, e', by simpa [γ', upd, e2] using h1, by simpa [γ', upd, hk] using h2, by rw [hoth k hk]; exact h3, h4⟩
    · by_cases e : k = g
      · subst e
        have := h.h.ow k _ hgow
        exact ⟨by rw [setRow_size]; exact this.1, this.2⟩
      · have := h.h.ow k x (by simpa [γ', upd, e] using hk)
        exact ⟨by rw [setRow_size]; exact this.1, this.2⟩
    · have := h.h.av.2 k hk
      refine ⟨by rw [setRow_size]; exact this.1, ?_⟩
      have hk : k ≠ g := by rintro rfl; rw [hgow] at this; cases this.2
      simpa [γ', upd, hk] using this.2
  · refine .own (top := zs.length) (by simp [lookS, Ne.symm hσs]) (.inr ⟨g, 0, cap, c', e, (0, 0), us, rfl, hnew, hcap, hmax, hsz, hlen, fun k hk => by simpa using hus k hk, h1, fun k hk hk' => (hel k hk hk').mono ev.keep,
      .inl ⟨by simp [γ', upd], by simp, fun _ => ⟨rfl, rfl, by omega, Nat.le_refl _⟩⟩⟩)

theorem sound_append_pf (h : SRel L n K st γ a w) (hd : dst.ok L n) {c : Call} {X Y : Operand} {t e : TypeId} {i : TypeInfo} {z : Value} {x y : AX} (hop : o.op = .call c) (hc : c.callee = .builtin .append) (hargs : c.args.toList = [X, Y]) (hts : c.argTypes.toList = [t, t])
    (ht : P.underlying t = some (.slice e)) (hi : P.info? e = some i) (hz : i.zero = some z) (hzs : z.cells.size = i.size) (hb : 0 < i.bytes) (hx : stripX L X = some x) (hy : stripX L Y = some y)
    {σ top s : Nat} {xs : List V} (hX : st.val x = .vw σ (some top) i.size xs) (hs : lookS st.stat σ = some (.own top i.size)) (hs2 : lookS st.stat s = none)
    {ys : List V} (hys : (st.val y).elems = some ys) (hal : aliveV st.stat (st.val y)) (hel : ∀ v ∈ ys, v.cells.length = i.size) (hroom : roomOk (xs.length + ys.length) i.bytes) {cl : Cls} :
    Runs P L n K (Delta.apply { val := .sl (some s) i.size (xs ++ ys), ns := [(σ, some .dead), (s, some (.own (xs.length + ys.length) i.size))], cls := cl } st dst) dst.toOpt o a w := by
  have rx := stripX_rel h hx
  have ry := stripX_rel h hy
  rw [hX] at rx
  obtain ⟨b, cp, us, ev, q1, q2, q3, q4, q5⟩ := source_cells (aliveV_cases hys hal ry hel) hel
  have hsrc : (b = none ∧ us = []) ∨ ∃ ad, b = some ad ∧ ∀ j u, us[j]? = some u → w.cell? (ad.add j) = some u := by
    rcases q5 with ⟨a1, _, a2⟩ | q5
    · exact .inl ⟨a1, a2⟩
    · exact .inr q5
  obtain ⟨r1, r2, r3⟩ := roomOk_maxLen hroom hb
  have hown : OwnSl γ w σ top i.size false xs (a.eval X) ∧ PfSl γ w σ top i.size xs (a.eval X) := by
    cases rx with
    | base rx => cases rx
    | vown hs' rx _ hp =>
      rw [hs] at hs'; cases hs'
      exact ⟨rx, hp rfl⟩
    | vimm hs' _ => rw [hs] at hs'; cases hs'
    | vdead hs' _ => rw [hs] at hs'; cases hs'
  have hlen2 : (xs ++ ys).length = xs.length + ys.length := List.length_append
  obtain ⟨hown, hpf⟩ := hown
  rcases hpf with ⟨hv, rfl⟩ | ⟨g, cap, c0, e0, hv, hg, hsp, hcs, htop, hcap, hmax⟩
  · simp only [List.length_nil, Nat.zero_add, List.nil_append] at *
    obtain ⟨v, w', γ', hr, h2⟩ := sound_append_nil h hd hop hc hargs hts ht hi hz hzs hb hy hv hys hs2 hal hel hroom (cl := cl)
    exact ⟨v, w', γ', hr, kill_apply h2 σ⟩
  · rcases hown with ⟨hv2, _⟩ | ⟨g', off, cap', c1, e1, fr, olds, hv2, hg', hcap', hmax', hsz, hlen, hus, h1c, helx, hwhere⟩
    · rw [hv] at hv2; cases hv2
    rw [hv] at hv2
    cases hv2
    rw [hg] at hg'
    cases hg'
    have hlf := length_flat hsz
    have hszz : ∀ x ∈ xs ++ ys, x.cells.length = i.size := fun x hx => by
      rcases List.mem_append.1 hx with hx | hx
      · exact hsz x hx
      · exact hel x hx
    have hlz : (olds ++ us).length = (flat (xs ++ ys)).length := by rw [flat_append]; simp; omega
    have h1z : ∀ u ∈ olds ++ us, u.oneCell' = true := fun u hu => by
      rcases List.mem_append.1 hu with hu | hu
      · exact h1c u hu
      · exact q2 u hu
    have helz : ∀ k (h : k < (flat (xs ++ ys)).length) (h' : k < (olds ++ us).length), PRel γ.O w ((flat (xs ++ ys))[k]) ((olds ++ us)[k]) := by
      intro k hk hk'
      simp only [flat_append] at hk ⊢
      by_cases q : k < (flat xs).length
      · rw [List.getElem_append_left q, List.getElem_append_left (by omega)]
        exact helx k q (by omega)
      · rw [List.getElem_append_right (by omega), List.getElem_append_right (by omega)]
        simp only [hlen]
        exact q4 _ _ _
    by_cases hfit : xs.length + ys.length ≤ cap
    · have hf2 : xs.length * i.size + us.length ≤ c0.size := by rw [q1, hcs, ← Nat.add_mul]; exact Nat.mul_le_mul_right _ hfit
      have hr := append_room (P := P) (w := w) (ty := o.type) ht hi hg (cp := cp) q1 hsrc q2 hfit hf2
      obtain ⟨γ', h2⟩ := pf_room h hd hs hs2 hsp hg (c' := (c0.toList.take (xs.length * i.size) ++ us ++ c0.toList.drop (xs.length * i.size + us.length)).toArray) (zs := xs ++ ys) (cap := cap) (us := olds ++ us) (by simp; omega)
        (by omega) hmax hszz hlz
        (fun k hk => by
          simp only [List.getElem?_toArray]
          rw [List.getElem?_append_left (by simp at hk ⊢; omega)]
          by_cases q : k < olds.length
          · rw [List.getElem?_append_left (by simp; omega), List.getElem?_append_left q, List.getElem?_take, if_pos (by omega)]
            have := hus k q
            simpa using this
          · rw [List.getElem?_append_right (by simp; omega), List.getElem?_append_right (by omega)]
            congr 1
            simp; omega) h1z helz hcs (cl := cl)
      rw [hlen2] at h2
      exact ⟨_, _, γ', .inl (run_append_call hop hc hargs hts (by rw [hv, ev]; exact hr)), h2⟩
    · have hold : (some (⟨g, 0, none⟩ : Addr) = none ∧ olds = []) ∨ ∃ ad, some (⟨g, 0, none⟩ : Addr) = some ad ∧ ∀ j u, olds[j]? = some u → w.cell? (ad.add j) = some u := by
        refine .inr ⟨_, rfl, fun j u hu => ?_⟩
        rw [addr_add]
        have hj : j < olds.length := (List.getElem?_eq_some_iff.1 hu).1
        simp only [World.cell?, hg]
        simpa [hu] using hus j hj
      have hr := append_grow (P := P) (w := w) (ty := o.type) ht hi hz (b0 := some ⟨g, 0, none⟩) (nn := xs.length) (cap := cap) (olds := olds) (by omega) hold (cp := cp) q1 hsrc (by omega) (by omega) (growslice_fits (by omega) r3)
      have hge := grownCap_ge w (xs.length + ys.length) cap e
      obtain ⟨γ', h2⟩ := new_own h hd hs2 (pushed_drew_alloc w _) (xs := xs ++ ys) (sz := i.size) (cap := grownCap w (xs.length + ys.length) cap e)
        (c := (olds ++ us ++ (Builtin.zeroCells z.cells (grownCap w (xs.length + ys.length) cap e - (xs.length + ys.length))).toList).toArray) (us := olds ++ us)
        (by omega) (grownCap_le_maxLen _ _ _ _ r1) hszz hlz (fun k hk => by simp only [List.getElem?_toArray]; rw [List.getElem?_append_left hk]) h1z helz (by
          simp only [List.size_toArray, List.length_append, Array.length_toList, size_zeroCells, hzs, q1, hlen, hlf, ← Nat.add_mul]
          congr 1; omega) (cl := cl) (e := e)
      rw [hlen2] at h2
      exact ⟨_, _, γ', .inl (run_append_call hop hc hargs hts (by rw [hv, ev]; exact hr)), kill_apply h2 σ⟩

end ops
end

section

section ops
variable {P : Program} {L : Nat → Bool} {n : Nat} {K : Ctx} {st : St} {γ : Ghost} {a : Act} {w : World} {o : Oper} {dst : AD}

theorem Evo.stat' {S S' : Stats} (h : ∀ k, lookS S' k = lookS S k) (γ : Ghost) (w : World) : Evo S γ w S' γ w :=
  ⟨fun g o h1 h2 => ⟨h1, h2⟩, fun d g h => h, fun g t h => h, fun σ q => by rw [h]; exact q, fun σ q => .inl (by rw [h]; exact q),
    fun σ top sz q => .inr (.inr ⟨top, by rw [h]; exact q, Nat.le_refl _, fun g c e fr h1 h2 => .inl ⟨h1, c, h2, rfl, fun k _ => rfl⟩⟩)⟩

def bytesV (l : List UInt8) : List V := l.map byteV

theorem flat_bytesV : ∀ l : List UInt8, flat (bytesV l) = bytesV l
  | [] => rfl
  | x :: r => by
    have := flat_bytesV r
    simp only [bytesV, List.map_cons, flat_cons] at this ⊢
    rw [this]; rfl

theorem bytesV_len (l : List UInt8) : (bytesV l).length = l.length := by simp [bytesV]

theorem bytesV_cells {l : List UInt8} : ∀ x ∈ bytesV l, x.cells.length = 1 := by
  intro x hx
  obtain ⟨b, _, rfl⟩ := List.mem_map.1 hx
  rfl

/-- The bytes as they lie in memory. -/
def rawB (l : List UInt8) : List Value := l.map fun b => Value.int .u8 b.toNat

theorem rawB_len (l : List UInt8) : (rawB l).length = l.length := by simp [rawB]

theorem rawB_one {l : List UInt8} : ∀ u ∈ rawB l, u.oneCell' = true := by
  intro u hu
  obtain ⟨b, _, rfl⟩ := List.mem_map.1 hu
  rfl

theorem rawB_rel {O : Nat → Prop} {l : List UInt8} : ∀ k (h : k < (flat (bytesV l)).length) (h' : k < (rawB l).length), PRel O w ((flat (bytesV l))[k]) ((rawB l)[k]) := by
  intro k h h'
  simp only [flat_bytesV]
  simp only [bytesV, rawB, List.getElem_map, byteV]
  exact .int _ _

theorem rawB_get {l : List UInt8} {k : Nat} (h : k < l.length) : (rawB l)[k]? = some (.int .u8 l[k].toNat) := by simp [rawB, h]

theorem to_bb {S : Stats} {e σ : Nat} {l : List UInt8} {v : Value} (hs : lookS S σ = some (.own l.length 1)) (h : VRel S γ w (.sl (some σ) 1 (bytesV l)) v)
    (ht : ∀ g n cap, v = .slice (some ⟨g, 0, none⟩) n cap → OfType w g e) : VRel S γ w (.bb e σ l) v := by
  refine .bb (by
    cases h with
    | base h => cases h
    | own _ h => exact h.isSl
    | imm hs' _ => rw [hs] at hs'; cases hs'
    | dead hs' _ => rw [hs] at hs'; cases hs') hs (fun t z q => ?_)
  cases q
  refine ⟨Nat.le_refl _, fun _ => ?_⟩
  cases h with
  | base h => cases h
  | imm hs' _ => rw [hs] at hs'; cases hs'
  | dead hs' _ => rw [hs] at hs'; cases hs'
  | own hs' h =>
    rw [hs] at hs'
    cases hs'
    rcases h with ⟨h1, h2⟩ | ⟨g, off, cap, c, e0, fr, us, hv, hg, hcap, hmax, hsz, hlen, hus, h1, hel, hown⟩
    · exact .inl ⟨h1, by simpa [bytesV] using h2⟩
    · rcases hown with ⟨q1, q2, q3⟩ | ⟨q1, q2⟩
      · obtain ⟨rfl, rfl, r3, r4⟩ := q3 rfl
        obtain ⟨c', fr', q⟩ := ht g _ cap hv
        rw [hg] at q
        cases q
        rw [bytesV_len] at hv hcap
        refine .inr ⟨g, cap, c, hv, q1, hg, by omega, hcap, hmax, fun k hk => ?_⟩
        have hk2 : k < us.length := by rw [hlen, flat_bytesV, bytesV_len]; exact hk
        have hk3 : k < (flat (bytesV l)).length := by rw [flat_bytesV, bytesV_len]; exact hk
        have := hus k hk2
        rw [Nat.zero_add, List.getElem?_eq_getElem hk2] at this
        rw [this]
        have h5 := hel k hk3 hk2
        have h6 : (flat (bytesV l))[k] = byteV l[k] := by simp only [flat_bytesV]; simp [bytesV]
        rw [h6, byteV] at h5
        generalize us[k] = u at h5
        cases h5
        rfl
      · have := (q2 rfl).2
        rw [bytesV_len] at this
        omega

theorem of_bb {S : Stats} {e σ : Nat} {l : List UInt8} {v : Value} (hs : lookS S σ = some (.own l.length 1)) (h : VRel S γ w (.bb e σ l) v) : BufSl γ w e σ l v := by
  cases h with
  | base h => cases h
  | bb hi hs' h =>
    rw [hs] at hs'
    cases hs'
    exact (h _ _ rfl).2 ⟨rfl, rfl⟩

theorem run_appStr_call {c : Call} {X Y : Operand} {t u : TypeId} (hop : o.op = .call c) (hc : c.callee = .builtin .append) (hargs : c.args.toList = [X, Y]) (hts : c.argTypes.toList = [t, u]) {v : Value} {w' : World}
    (h : (Builtin.append_ #[t, u] o.type #[a.eval X, a.eval Y]).run P w = .ok v w') : (execOp a.eval o).run P w = .ok (.value v) w' := by
  have e1 : c.args = #[X, Y] := by rw [← Array.toArray_toList (xs := c.args), hargs]
  have e2 : c.argTypes = #[t, u] := by rw [← Array.toArray_toList (xs := c.argTypes), hts]
  rw [run_builtin (P := P) (a := a) (w := w) c .append hop hc, e1, e2]
  simp [builtin, h]

theorem size_of_data {s : ByteArray} {l : List UInt8} (h : s.data.toList = l) : s.size = l.length := by
  subst h
  rw [Array.length_toList]
  rfl

theorem strCells_raw {s : ByteArray} {l : List UInt8} (h : s.data.toList = l) : Lib.strCells s = rawB l := by
  subst h; rfl

theorem sound_appStr (h : SRel L n K st γ a w) (hd : dst.ok L n) {c : Call} {X Y : Operand} {t u e : TypeId} {i : TypeInfo} {z : Value} {x y : AX} (hop : o.op = .call c) (hc : c.callee = .builtin .append) (hargs : c.args.toList = [X, Y]) (hts : c.argTypes.toList = [t, u])
    (ht : P.underlying t = some (.slice e)) (hu : P.underlying u = some .string) (hi : P.info? e = some i) (hz : i.zero = some z) (hzs : z.cells.size = 1) (hi1 : i.size = 1) (hb : i.bytes = 1) (hx : stripX L X = some x) (hy : stripX L Y = some y)
    {d : Nat} {p : Prop} {δ : Delta} (hδ : astep st d (.appStr e x y) = some (p, δ)) (hp : p) : Runs P L n K (δ.apply st dst) dst.toOpt o a w := by
  have rx := stripX_rel h hx
  have ry := stripX_rel h hy
  simp only [astep] at hδ
  split at hδ <;> try (cases hδ; done)
  rename_i l hY
  rw [hY] at ry
  obtain ⟨s, hs1, hs2⟩ := ry.str_inv
  have hss := size_of_data hs2
  have hsc := strCells_raw hs2
  have hrawd : (s.data.map fun b => Value.int .u8 b.toNat) = (rawB l).toArray := by
    apply Array.ext'
    simp [rawB, hs2]
  split at hδ <;> try (cases hδ; done)
  · -- the buffer is nil
    rename_i hX
    simp only [Option.some.injEq, Prod.mk.injEq] at hδ
    obtain ⟨rfl, rfl⟩ := hδ
    obtain ⟨hsn, hroom⟩ := hp
    rw [hX] at rx
    have hXv := rx.nils_inv
    obtain ⟨r1, r2, r3⟩ := roomOk_maxLen hroom (by omega)
    by_cases h0 : l.length = 0
    · obtain rfl : l = [] := List.eq_nil_of_length_eq_zero h0
      let γ' : Ghost := { γ with sp := upd γ.sp (16 * d) none }
      have hne : ∀ τ y, lookS st.stat τ = some y → τ ≠ 16 * d := by rintro τ y hx rfl; rw [hsn] at hx; cases hx
      have ev2 : Evo st.stat γ w ((16 * d, some (.own 0 1)) :: st.stat) γ' w := by
        refine ⟨fun g ob h1 h2 => ⟨h1, h2⟩, fun d g hd => hd, fun g t q => q, fun σ hq => by simpa [lookS, hne _ _ hq] using hq, fun σ hq => .inl (by simpa [lookS, hne _ _ hq] using hq),
          fun σ top sz' hq => .inr (.inr ⟨top, by simpa [lookS, hne _ _ hq] using hq, Nat.le_refl _, fun g c e fr h2 h3 => .inl ⟨by simpa [γ', upd, hne _ _ hq] using h2, c, h3, rfl, fun k _ => rfl⟩⟩)⟩
      refine ⟨.slice none 0 0, w, γ', .inl (run_appStr_call hop hc hargs hts ?_), h.step hd ev2 ?_ (.bb (s := .own 0 1) ⟨_, _, _, rfl⟩ (by simp [lookS]) (fun t z q => by cases q; exact ⟨by simp, fun _ => .inl ⟨rfl, rfl⟩⟩))⟩
      · have hf := Lib.run_firstCells_string (P := P) w 1 s
        have hn : Lib.strCells s = [] := by rw [hsc]; rfl
        rw [show s.size = 0 from by simpa using hss] at hf
        rw [hXv, hs1]
        simp [Builtin.append_, run_underlying ht, run_underlying hu, sizeOf, typeInfo, hi, hi1, Builtin.lenOf, hss, hf]
      · refine ⟨fun d cs' hl => ?_, h.h.bxd, fun σ top sz' hq => ?_, h.h.ow, h.h.av, h.h.frame⟩
        · obtain ⟨g, c', e', h1, h2, h3, h4, h5⟩ := h.h.box d cs' hl
          exact ⟨g, c', e', h1, h2, h3, h4, fun k hk hk' => (h5 k hk hk').evo ev2⟩
        · simp only [List.cons_append, List.nil_append, lookS, List.length_nil] at hq
          by_cases e : σ = 16 * d
          · rw [if_pos e] at hq
            cases hq
            exact .inl ⟨by simp [γ', upd, e], rfl⟩
          · rw [if_neg e] at hq
            rcases h.h.sp σ top sz' hq with h1 | ⟨g, c', e', h1, h2⟩
            · exact .inl (by simpa [γ', upd, e] using h1)
            · exact .inr ⟨g, c', e', by simpa [γ', upd, e] using h1, h2⟩
    · have hr := run_append_nil_string (P := P) w t u o.type e i z ht hu hi hz s (by omega) (by omega) (by rw [hb]; omega)
      rw [hrawd, hss] at hr
      have hw := pushed_drew_alloc w (.cells ((rawB l).toArray ++ Builtin.zeroCells z.cells (grownCap w l.length 0 e - l.length)) e)
      obtain ⟨γ', h2⟩ := new_own_x h hd hsn hw (xs := bytesV l) (sz := 1) (cap := grownCap w l.length 0 e) (us := rawB l)
        (by rw [bytesV_len]; exact grownCap_ge _ _ _ _) (grownCap_le_maxLen _ _ _ _ r1) bytesV_cells (by rw [flat_bytesV, bytesV_len, rawB_len]) (fun k hk => by rw [Array.getElem?_append_left (by simpa using hk)]; simp) rawB_one rawB_rel (by
          have := grownCap_ge w l.length 0 e
          simp only [Array.size_append, List.size_toArray, size_zeroCells, hzs, rawB_len]; omega) (cl := .e) (xr := .bb e (16 * d) l) (fun γ' q => by
          refine to_bb (by simp [lookS, bytesV_len]) (by simpa [bytesV_len] using q) (fun g m cap hv => ?_)
          cases hv
          exact ⟨_, _, hw.new⟩)
      rw [bytesV_len] at h2
      exact ⟨_, _, γ', .inl (run_appStr_call hop hc hargs hts (by rw [hXv, hs1]; exact hr)), h2⟩
  · rename_i e' σ l0 hX
    split at hδ <;> try (cases hδ; done)
    rename_i top sz hS
    simp only [Option.some.injEq, Prod.mk.injEq] at hδ
    obtain ⟨rfl, rfl⟩ := hδ
    obtain ⟨rfl, rfl, rfl, hroom⟩ := hp
    rw [hX] at rx
    have hbuf := of_bb hS rx
    obtain ⟨r1, r2, r3⟩ := roomOk_maxLen hroom (by omega)
    have hlz : (rawB (l0 ++ l)).length = (flat (bytesV (l0 ++ l))).length := by rw [flat_bytesV, bytesV_len, rawB_len]
    rcases hbuf with ⟨hv, rfl⟩ | ⟨g, cap, c0, hv, hsp, hg, hcs, hcap, hmax, hget⟩
    · -- owned, and nil
      simp only [List.length_nil, Nat.zero_add, List.nil_append] at *
      by_cases h0 : l.length = 0
      · obtain rfl : l = [] := List.eq_nil_of_length_eq_zero h0
        have hrun : (Builtin.append_ #[t, u] o.type #[a.eval X, a.eval Y]).run P w = .ok (.slice none 0 0) w := by
          have hf := Lib.run_firstCells_string (P := P) w 1 s
          have hn : Lib.strCells s = [] := by rw [hsc]; rfl
          rw [show s.size = 0 from by simpa using hss] at hf
          rw [hv, hs1]
          simp [Builtin.append_, run_underlying ht, run_underlying hu, sizeOf, typeInfo, hi, hi1, Builtin.lenOf, hss, hf]
        have hlk : ∀ τ, lookS ((σ, some (.own 0 1)) :: st.stat) τ = lookS st.stat τ := by
          intro τ
          by_cases e : τ = σ
          · rw [e, hS]; simp [lookS]
          · simp [lookS, e]
        have ev2 : Evo st.stat γ w ((σ, some (.own 0 1)) :: st.stat) γ w := .stat' hlk γ w
        refine ⟨.slice none 0 0, w, γ, .inl (run_appStr_call hop hc hargs hts hrun), h.step hd ev2 ?_ (.bb (s := .own 0 1) ⟨_, _, _, rfl⟩ (by simp [lookS]) (fun t z q => by cases q; exact ⟨by simp, fun _ => .inl ⟨rfl, rfl⟩⟩))⟩
        refine ⟨fun d cs' hl => ?_, h.h.bxd, fun τ top sz' hq => ?_, h.h.ow, h.h.av, h.h.frame⟩
        · obtain ⟨g, c', e', h1, h2, h3, h4, h5⟩ := h.h.box d cs' hl
          exact ⟨g, c', e', h1, h2, h3, h4, fun k hk hk' => (h5 k hk hk').evo ev2⟩
        · exact h.h.sp τ top sz' (by rw [← hlk τ]; exact hq)
      · have hr := run_append_nil_string (P := P) w t u o.type e i z ht hu hi hz s (by omega) (by omega) (by rw [hb]; omega)
        rw [hrawd, hss] at hr
        have hw := pushed_drew_alloc w (.cells ((rawB l).toArray ++ Builtin.zeroCells z.cells (grownCap w l.length 0 e - l.length)) e)
        obtain ⟨γ', h2⟩ := own_grow_x h hd hS hw (zs := bytesV l) (cap := grownCap w l.length 0 e) (us := rawB l)
          (by rw [bytesV_len]; exact grownCap_ge _ _ _ _) (grownCap_le_maxLen _ _ _ _ r1) bytesV_cells (by rw [flat_bytesV, bytesV_len, rawB_len]) (fun k hk => by rw [Array.getElem?_append_left (by simpa using hk)]; simp) rawB_one rawB_rel (by
            have := grownCap_ge w l.length 0 e
            simp only [Array.size_append, List.size_toArray, size_zeroCells, hzs, rawB_len]; omega) (by rw [bytesV_len]; omega) (cl := .e) (xr := .bb e σ l) (fun γ' q => by
            refine to_bb (by simp [lookS, bytesV_len]) (by simpa [bytesV_len] using q) (fun g m cap hv => ?_)
            cases hv
            exact ⟨_, _, hw.new⟩)
        rw [bytesV_len] at h2
        exact ⟨_, _, γ', .inl (run_appStr_call hop hc hargs hts (by rw [hv, hs1]; exact hr)), h2⟩
    · have hlen2 : (l0 ++ l).length = l0.length + l.length := List.length_append
      have htake : c0.toList.take l0.length = rawB l0 := by
        apply List.ext_getElem?
        intro k
        rw [List.getElem?_take]
        by_cases hk : k < l0.length
        · rw [if_pos hk, rawB_get hk, ← hget k hk]; simp
        · rw [if_neg hk, List.getElem?_eq_none (by rw [rawB_len]; omega)]
      have hrawapp : rawB (l0 ++ l) = rawB l0 ++ rawB l := by simp [rawB]
      by_cases hfit : l0.length + l.length ≤ cap
      · have hr := Lib.run_append_room_string (P := P) w t u o.type e i ht hu hi hi1 g l0.length cap c0 hg s (by omega) (by omega)
        rw [hss, hsc] at hr
        have h2 := own_room_x h hd hS hsp hg (c' := (c0.toList.take l0.length ++ rawB l ++ c0.toList.drop (l0.length + l.length)).toArray) (zs := bytesV (l0 ++ l)) (cap := cap) (us := rawB (l0 ++ l)) (by simp [rawB_len]; omega)
          (fun k hk => by simp only [List.getElem?_toArray]; rw [List.append_assoc, List.getElem?_append_left (by simp; omega), List.getElem?_take, if_pos (by omega)]; simp) (by rw [bytesV_len]; omega) hmax bytesV_cells hlz
          (fun k hk => by
            simp only [List.getElem?_toArray]
            rw [htake, ← hrawapp, List.getElem?_append_left hk]) rawB_one rawB_rel (by omega) (by rw [bytesV_len]; omega) (cl := .e) (xr := .bb e σ (l0 ++ l)) (fun γ' q => by
            refine to_bb (by simp [lookS, bytesV_len]) (by simpa [bytesV_len] using q) (fun g' m cap' hv' => ?_)
            cases hv'
            exact ⟨_, _, setRow_heap w g c0 _ e (0, 0) hg⟩)
        rw [bytesV_len, hlen2] at h2
        exact ⟨_, _, γ, .inl (run_appStr_call hop hc hargs hts (by rw [hv, hs1]; exact hr)), h2⟩
      · have holds : ∀ j v, (rawB l0)[j]? = some v → w.cell? ((⟨g, 0, none⟩ : Addr).add j) = some v := by
          intro j v hj
          rw [addr_add]
          have hj2 : j < l0.length := by have := (List.getElem?_eq_some_iff.1 hj).1; rwa [rawB_len] at this
          simp only [World.cell?, hg, Nat.zero_add]
          rw [rawB_get hj2] at hj
          simpa [hget j hj2] using hj
        have hr := Lib.run_append_grow_string (P := P) w t u o.type e i z ht hu hi hz ⟨g, 0, none⟩ l0.length cap (rawB l0) (by rw [rawB_len, hi1, Nat.mul_one]) holds s (by omega) (by omega) (by rw [hb]; exact growslice_fits (by omega) (by omega))
        rw [hss, hsc] at hr
        have hw := pushed_drew_alloc w (.cells ((rawB l0).toArray ++ (rawB l).toArray ++ Builtin.zeroCells z.cells (grownCap w (l0.length + l.length) cap e - (l0.length + l.length))) e)
        have hge := grownCap_ge w (l0.length + l.length) cap e
        obtain ⟨γ', h2⟩ := own_grow_x h hd hS hw (zs := bytesV (l0 ++ l)) (cap := grownCap w (l0.length + l.length) cap e) (us := rawB (l0 ++ l))
          (by rw [bytesV_len]; omega) (grownCap_le_maxLen _ _ _ _ r1) bytesV_cells hlz (fun k hk => by
            rw [Array.getElem?_append_left (by simpa [rawB_len] using hk), hrawapp]; simp) rawB_one rawB_rel (by
            simp only [Array.size_append, List.size_toArray, size_zeroCells, hzs, rawB_len]; omega) (by rw [bytesV_len]; omega) (cl := .e) (xr := .bb e σ (l0 ++ l)) (fun γ' q => by
            refine to_bb (by simp [lookS, bytesV_len]) (by simpa [bytesV_len] using q) (fun g' m cap' hv' => ?_)
            cases hv'
            exact ⟨_, _, hw.new⟩)
        rw [bytesV_len, hlen2] at h2
        exact ⟨_, _, γ', .inl (run_appStr_call hop hc hargs hts (by rw [hv, hs1]; exact hr)), h2⟩

end ops
end

end Go.Proofs.YtnhhcfbigjpfeaaDoor
