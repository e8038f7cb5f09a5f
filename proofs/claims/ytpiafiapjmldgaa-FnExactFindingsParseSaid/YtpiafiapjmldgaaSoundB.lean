/-
  A string appended to bytes that are owned, in a block of a known type: the buffer of a builder.
-/
import Derived.Test.YtpiafiapjmldgaaSoundP
import Derived.Lib.AppendStr
namespace Go.Proofs.Ytpiafiapjmldgaa
set_option linter.all false

section ops
variable {P : Program} {L : Nat → Bool} {n : Nat} {K : Ctx} {st : St} {γ : Ghost} {a : Act} {w : World} {o : Oper} {dst : AD}

theorem Evo.stat' {S S' : Stats} (h : ∀ k, lookS S' k = lookS S k) (γ : Ghost) (w : World) : Evo S γ w S' γ w :=
  ⟨fun g o h1 h2 => ⟨h1, h2⟩, fun d g h => h, fun g t h => h, fun σ q => by rw [h]; exact q, fun σ q => .inl (by rw [h]; exact q),
    fun σ top sz q => .inr (.inr ⟨top, by rw [h]; exact q, Nat.le_refl _, fun g c e fr h1 h2 => .inl ⟨h1, c, h2, rfl, fun k _ => rfl⟩⟩)⟩

def bytesV (l : List UInt8) : List V := l.map byteV

theorem flat_bytesV : ∀ l : List UInt8, flat (bytesV l) = bytesV l
  | [] => rfl
  | x :: r => by
    have := flat_bytesV r
    simp only [bytesV, List.map_cons, flat_cons] at this ⊢
    rw [this]; rfl

theorem bytesV_len (l : List UInt8) : (bytesV l).length = l.length := by simp [bytesV]

theorem bytesV_cells {l : List UInt8} : ∀ x ∈ bytesV l, x.cells.length = 1 := by
  intro x hx
  obtain ⟨b, _, rfl⟩ := List.mem_map.1 hx
  rfl

theorem bytesV_append (l m : List UInt8) : bytesV (l ++ m) = bytesV l ++ bytesV m := by simp [bytesV]

/-- The bytes as they lie in memory. -/
def rawB (l : List UInt8) : List Value := l.map fun b => Value.int .u8 b.toNat

theorem rawB_len (l : List UInt8) : (rawB l).length = l.length := by simp [rawB]

theorem rawB_one {l : List UInt8} : ∀ u ∈ rawB l, u.oneCell' = true := by
  intro u hu
  obtain ⟨b, _, rfl⟩ := List.mem_map.1 hu
  rfl

theorem rawB_rel {O : Nat → Prop} {l : List UInt8} : ∀ k (h : k < (flat (bytesV l)).length) (h' : k < (rawB l).length), PRel O w ((flat (bytesV l))[k]) ((rawB l)[k]) := by
  intro k h h'
  simp only [flat_bytesV]
  simp only [bytesV, rawB, List.getElem_map, byteV]
  exact .int _ _

theorem rawB_get {l : List UInt8} {k : Nat} (h : k < l.length) : (rawB l)[k]? = some (.int .u8 l[k].toNat) := by simp [rawB, h]

theorem to_bb {S : Stats} {e σ : Nat} {l : List UInt8} {v : Value} (hs : lookS S σ = some (.own l.length 1)) (h : VRel S γ w (.sl (some σ) 1 (bytesV l)) v)
    (ht : ∀ g n cap, v = .slice (some ⟨g, 0, none⟩) n cap → OfType w g e) : VRel S γ w (.bb e σ l) v := by
  refine .bb (by
    cases h with
    | base h => cases h
    | own _ h => exact h.isSl
    | imm hs' _ => rw [hs] at hs'; cases hs'
    | dead hs' _ => rw [hs] at hs'; cases hs') hs (fun t z q => ?_)
  cases q
  refine ⟨Nat.le_refl _, fun _ => ?_⟩
  cases h with
  | base h => cases h
  | imm hs' _ => rw [hs] at hs'; cases hs'
  | dead hs' _ => rw [hs] at hs'; cases hs'
  | own hs' h =>
    rw [hs] at hs'
    cases hs'
    rcases h with ⟨h1, h2⟩ | ⟨g, off, cap, c, e0, fr, us, hv, hg, hcap, hmax, hsz, hlen, hus, h1, hel, hown⟩
    · exact .inl ⟨h1, by simpa [bytesV] using h2⟩
    · rcases hown with ⟨q1, q2, q3⟩ | ⟨q1, q2⟩
      · obtain ⟨rfl, rfl, r3, r4⟩ := q3 rfl
        obtain ⟨c', fr', q⟩ := ht g _ cap hv
        rw [hg] at q
        cases q
        rw [bytesV_len] at hv hcap
        refine .inr ⟨g, cap, c, hv, q1, hg, by omega, hcap, hmax, fun k hk => ?_⟩
        have hk2 : k < us.length := by rw [hlen, flat_bytesV, bytesV_len]; exact hk
        have hk3 : k < (flat (bytesV l)).length := by rw [flat_bytesV, bytesV_len]; exact hk
        have := hus k hk2
        rw [Nat.zero_add, List.getElem?_eq_getElem hk2] at this
        rw [this]
        have h5 := hel k hk3 hk2
        have h6 : (flat (bytesV l))[k] = byteV l[k] := by simp only [flat_bytesV]; simp [bytesV]
        rw [h6, byteV] at h5
        generalize us[k] = u at h5
        cases h5
        rfl
      · have := (q2 rfl).2
        rw [bytesV_len] at this
        omega

theorem of_bb {S : Stats} {e σ : Nat} {l : List UInt8} {v : Value} (hs : lookS S σ = some (.own l.length 1)) (h : VRel S γ w (.bb e σ l) v) : BufSl γ w e σ l v := by
  cases h with
  | base h => cases h
  | bb hi hs' h =>
    rw [hs] at hs'
    cases hs'
    exact (h _ _ rfl).2 ⟨rfl, rfl⟩

theorem run_appStr_call {c : Call} {X Y : Operand} {t u : TypeId} (hop : o.op = .call c) (hc : c.callee = .builtin .append) (hargs : c.args.toList = [X, Y]) (hts : c.argTypes.toList = [t, u]) {v : Value} {w' : World}
    (h : (Builtin.append_ #[t, u] o.type #[a.eval X, a.eval Y]).run P w = .ok v w') : (execOp a.eval o).run P w = .ok (.value v) w' := by
  have e1 : c.args = #[X, Y] := by rw [← Array.toArray_toList (xs := c.args), hargs]
  have e2 : c.argTypes = #[t, u] := by rw [← Array.toArray_toList (xs := c.argTypes), hts]
  rw [run_builtin (P := P) (a := a) (w := w) c .append hop hc, e1, e2]
  simp [builtin, h]

theorem size_of_data {s : ByteArray} {l : List UInt8} (h : s.data.toList = l) : s.size = l.length := by
  subst h
  rw [Array.length_toList]
  rfl

theorem strCells_raw {s : ByteArray} {l : List UInt8} (h : s.data.toList = l) : Lib.strCells s = rawB l := by
  subst h; rfl

theorem sound_appStr (h : SRel L n K st γ a w) (hd : dst.ok L n) {c : Call} {X Y : Operand} {t u e : TypeId} {i : TypeInfo} {z : Value} {x y : AX} (hop : o.op = .call c) (hc : c.callee = .builtin .append) (hargs : c.args.toList = [X, Y]) (hts : c.argTypes.toList = [t, u])
    (ht : P.underlying t = some (.slice e)) (hu : P.underlying u = some .string) (hi : P.info? e = some i) (hz : i.zero = some z) (hzs : z.cells.size = 1) (hi1 : i.size = 1) (hb : i.bytes = 1) (hx : stripX L X = some x) (hy : stripX L Y = some y)
    {d : Nat} {p : Prop} {δ : Delta} (hδ : astep st d (.appStr e x y) = some (p, δ)) (hp : p) : Runs P L n K (δ.apply st dst) dst.toOpt o a w := by
  have rx := stripX_rel h hx
  have ry := stripX_rel h hy
  simp only [astep] at hδ
  split at hδ <;> try (cases hδ; done)
  rename_i l hY
  rw [hY] at ry
  obtain ⟨s, hs1, hs2⟩ := ry.str_inv
  have hss := size_of_data hs2
  have hsc := strCells_raw hs2
  have hrawd : (s.data.map fun b => Value.int .u8 b.toNat) = (rawB l).toArray := by
    apply Array.ext'
    simp [rawB, hs2]
  split at hδ <;> try (cases hδ; done)
  · -- the buffer is nil
    rename_i hX
    simp only [Option.some.injEq, Prod.mk.injEq] at hδ
    obtain ⟨rfl, rfl⟩ := hδ
    obtain ⟨hsn, hroom⟩ := hp
    rw [hX] at rx
    have hXv := rx.nils_inv
    obtain ⟨r1, r2, r3⟩ := roomOk_maxLen hroom (by omega)
    by_cases h0 : l.length = 0
    · obtain rfl : l = [] := List.eq_nil_of_length_eq_zero h0
      let γ' : Ghost := { γ with sp := upd γ.sp (16 * d) none }
      have hne : ∀ τ y, lookS st.stat τ = some y → τ ≠ 16 * d := by rintro τ y hx rfl; rw [hsn] at hx; cases hx
      have ev2 : Evo st.stat γ w ((16 * d, some (.own 0 1)) :: st.stat) γ' w := by
        refine ⟨fun g ob h1 h2 => ⟨h1, h2⟩, fun d g hd => hd, fun g t q => q, fun σ hq => by simpa [lookS, hne _ _ hq] using hq, fun σ hq => .inl (by simpa [lookS, hne _ _ hq] using hq),
          fun σ top sz' hq => .inr (.inr ⟨top, by simpa [lookS, hne _ _ hq] using hq, Nat.le_refl _, fun g c e fr h2 h3 => .inl ⟨by simpa [γ', upd, hne _ _ hq] using h2, c, h3, rfl, fun k _ => rfl⟩⟩)⟩
      refine ⟨.slice none 0 0, w, γ', .inl (run_appStr_call hop hc hargs hts ?_), h.step hd ev2 ?_ (.bb (s := .own 0 1) ⟨_, _, _, rfl⟩ (by simp [lookS]) (fun t z q => by cases q; exact ⟨by simp, fun _ => .inl ⟨rfl, rfl⟩⟩))⟩
      · have hf := Lib.run_firstCells_string (P := P) w 1 s
        have hn : Lib.strCells s = [] := by rw [hsc]; rfl
        rw [show s.size = 0 from by simpa using hss] at hf
        rw [hXv, hs1]
        simp [Builtin.append_, run_underlying ht, run_underlying hu, sizeOf, typeInfo, hi, hi1, Builtin.lenOf, hss, hf]
      · refine ⟨fun d cs' hl => ?_, h.h.bxd, fun σ top sz' hq => ?_, h.h.ow, h.h.av, h.h.frame⟩
        · obtain ⟨g, c', e', h1, h2, h3, h4, h5⟩ := h.h.box d cs' hl
          exact ⟨g, c', e', h1, h2, h3, h4, fun k hk hk' => (h5 k hk hk').evo ev2⟩
        · simp only [List.cons_append, List.nil_append, lookS, List.length_nil] at hq
          by_cases e : σ = 16 * d
          · rw [if_pos e] at hq
            cases hq
            exact .inl ⟨by simp [γ', upd, e], rfl⟩
          · rw [if_neg e] at hq
            rcases h.h.sp σ top sz' hq with h1 | ⟨g, c', e', h1, h2⟩
            · exact .inl (by simpa [γ', upd, e] using h1)
            · exact .inr ⟨g, c', e', by simpa [γ', upd, e] using h1, h2⟩
    · have hr := run_append_nil_string (P := P) w t u o.type e i z ht hu hi hz s (by omega) (by omega) (by rw [hb]; omega)
      rw [hrawd, hss] at hr
      have hw := pushed_drew_alloc w (.cells ((rawB l).toArray ++ Builtin.zeroCells z.cells (grownCap w l.length 0 e - l.length)) e)
      obtain ⟨γ', h2⟩ := new_own_x h hd hsn hw (xs := bytesV l) (sz := 1) (cap := grownCap w l.length 0 e) (us := rawB l)
        (by rw [bytesV_len]; exact grownCap_ge _ _ _ _) (grownCap_le_maxLen _ _ _ _ r1) bytesV_cells (by rw [flat_bytesV, bytesV_len, rawB_len]) (fun k hk => by rw [Array.getElem?_append_left (by simpa using hk)]; simp) rawB_one rawB_rel (by
          have := grownCap_ge w l.length 0 e
          simp only [Array.size_append, List.size_toArray, size_zeroCells, hzs, rawB_len]; omega) (cl := .e) (xr := .bb e (16 * d) l) (fun γ' q => by
          refine to_bb (by simp [lookS, bytesV_len]) (by simpa [bytesV_len] using q) (fun g m cap hv => ?_)
          cases hv
          exact ⟨_, _, hw.new⟩)
      rw [bytesV_len] at h2
      exact ⟨_, _, γ', .inl (run_appStr_call hop hc hargs hts (by rw [hXv, hs1]; exact hr)), h2⟩
  · rename_i e' σ l0 hX
    split at hδ <;> try (cases hδ; done)
    rename_i top sz hS
    simp only [Option.some.injEq, Prod.mk.injEq] at hδ
    obtain ⟨rfl, rfl⟩ := hδ
    obtain ⟨rfl, rfl, rfl, hroom⟩ := hp
    rw [hX] at rx
    have hbuf := of_bb hS rx
    obtain ⟨r1, r2, r3⟩ := roomOk_maxLen hroom (by omega)
    have hlz : (rawB (l0 ++ l)).length = (flat (bytesV (l0 ++ l))).length := by rw [flat_bytesV, bytesV_len, rawB_len]
    rcases hbuf with ⟨hv, rfl⟩ | ⟨g, cap, c0, hv, hsp, hg, hcs, hcap, hmax, hget⟩
    · -- owned, and nil
      simp only [List.length_nil, Nat.zero_add, List.nil_append] at *
      by_cases h0 : l.length = 0
      · obtain rfl : l = [] := List.eq_nil_of_length_eq_zero h0
        have hrun : (Builtin.append_ #[t, u] o.type #[a.eval X, a.eval Y]).run P w = .ok (.slice none 0 0) w := by
          have hf := Lib.run_firstCells_string (P := P) w 1 s
          have hn : Lib.strCells s = [] := by rw [hsc]; rfl
          rw [show s.size = 0 from by simpa using hss] at hf
          rw [hv, hs1]
          simp [Builtin.append_, run_underlying ht, run_underlying hu, sizeOf, typeInfo, hi, hi1, Builtin.lenOf, hss, hf]
        have hlk : ∀ τ, lookS ((σ, some (.own 0 1)) :: st.stat) τ = lookS st.stat τ := by
          intro τ
          by_cases e : τ = σ
          · rw [e, hS]; simp [lookS]
          · simp [lookS, e]
        have ev2 : Evo st.stat γ w ((σ, some (.own 0 1)) :: st.stat) γ w := .stat' hlk γ w
        refine ⟨.slice none 0 0, w, γ, .inl (run_appStr_call hop hc hargs hts hrun), h.step hd ev2 ?_ (.bb (s := .own 0 1) ⟨_, _, _, rfl⟩ (by simp [lookS]) (fun t z q => by cases q; exact ⟨by simp, fun _ => .inl ⟨rfl, rfl⟩⟩))⟩
        refine ⟨fun d cs' hl => ?_, h.h.bxd, fun τ top sz' hq => ?_, h.h.ow, h.h.av, h.h.frame⟩
        · obtain ⟨g, c', e', h1, h2, h3, h4, h5⟩ := h.h.box d cs' hl
          exact ⟨g, c', e', h1, h2, h3, h4, fun k hk hk' => (h5 k hk hk').evo ev2⟩
        · exact h.h.sp τ top sz' (by rw [← hlk τ]; exact hq)
      · have hr := run_append_nil_string (P := P) w t u o.type e i z ht hu hi hz s (by omega) (by omega) (by rw [hb]; omega)
        rw [hrawd, hss] at hr
        have hw := pushed_drew_alloc w (.cells ((rawB l).toArray ++ Builtin.zeroCells z.cells (grownCap w l.length 0 e - l.length)) e)
        obtain ⟨γ', h2⟩ := own_grow_x h hd hS hw (zs := bytesV l) (cap := grownCap w l.length 0 e) (us := rawB l)
          (by rw [bytesV_len]; exact grownCap_ge _ _ _ _) (grownCap_le_maxLen _ _ _ _ r1) bytesV_cells (by rw [flat_bytesV, bytesV_len, rawB_len]) (fun k hk => by rw [Array.getElem?_append_left (by simpa using hk)]; simp) rawB_one rawB_rel (by
            have := grownCap_ge w l.length 0 e
            simp only [Array.size_append, List.size_toArray, size_zeroCells, hzs, rawB_len]; omega) (by rw [bytesV_len]; omega) (cl := .e) (xr := .bb e σ l) (fun γ' q => by
            refine to_bb (by simp [lookS, bytesV_len]) (by simpa [bytesV_len] using q) (fun g m cap hv => ?_)
            cases hv
            exact ⟨_, _, hw.new⟩)
        rw [bytesV_len] at h2
        exact ⟨_, _, γ', .inl (run_appStr_call hop hc hargs hts (by rw [hv, hs1]; exact hr)), h2⟩
    · have hlen2 : (l0 ++ l).length = l0.length + l.length := List.length_append
      have htake : c0.toList.take l0.length = rawB l0 := by
        apply List.ext_getElem?
        intro k
        rw [List.getElem?_take]
        by_cases hk : k < l0.length
        · rw [if_pos hk, rawB_get hk, ← hget k hk]; simp
        · rw [if_neg hk, List.getElem?_eq_none (by rw [rawB_len]; omega)]
      have hrawapp : rawB (l0 ++ l) = rawB l0 ++ rawB l := by simp [rawB]
      by_cases hfit : l0.length + l.length ≤ cap
      · have hr := Lib.run_append_room_string (P := P) w t u o.type e i ht hu hi hi1 g l0.length cap c0 hg s (by omega) (by omega)
        rw [hss, hsc] at hr
        have h2 := own_room_x h hd hS hsp hg (c' := (c0.toList.take l0.length ++ rawB l ++ c0.toList.drop (l0.length + l.length)).toArray) (zs := bytesV (l0 ++ l)) (cap := cap) (us := rawB (l0 ++ l)) (by simp [rawB_len]; omega)
          (fun k hk => by simp only [List.getElem?_toArray]; rw [List.append_assoc, List.getElem?_append_left (by simp; omega), List.getElem?_take, if_pos (by omega)]; simp) (by rw [bytesV_len]; omega) hmax bytesV_cells hlz
          (fun k hk => by
            simp only [List.getElem?_toArray]
            rw [htake, ← hrawapp, List.getElem?_append_left hk]) rawB_one rawB_rel (by omega) (by rw [bytesV_len]; omega) (cl := .e) (xr := .bb e σ (l0 ++ l)) (fun γ' q => by
            refine to_bb (by simp [lookS, bytesV_len]) (by simpa [bytesV_len] using q) (fun g' m cap' hv' => ?_)
            cases hv'
            exact ⟨_, _, setRow_heap w g c0 _ e (0, 0) hg⟩)
        rw [bytesV_len, hlen2] at h2
        exact ⟨_, _, γ, .inl (run_appStr_call hop hc hargs hts (by rw [hv, hs1]; exact hr)), h2⟩
      · have holds : ∀ j v, (rawB l0)[j]? = some v → w.cell? ((⟨g, 0, none⟩ : Addr).add j) = some v := by
          intro j v hj
          rw [addr_add]
          have hj2 : j < l0.length := by have := (List.getElem?_eq_some_iff.1 hj).1; rwa [rawB_len] at this
          simp only [World.cell?, hg, Nat.zero_add]
          rw [rawB_get hj2] at hj
          simpa [hget j hj2] using hj
        have hr := Lib.run_append_grow_string (P := P) w t u o.type e i z ht hu hi hz ⟨g, 0, none⟩ l0.length cap (rawB l0) (by rw [rawB_len, hi1, Nat.mul_one]) holds s (by omega) (by omega) (by rw [hb]; exact growslice_fits (by omega) (by omega))
        rw [hss, hsc] at hr
        have hw := pushed_drew_alloc w (.cells ((rawB l0).toArray ++ (rawB l).toArray ++ Builtin.zeroCells z.cells (grownCap w (l0.length + l.length) cap e - (l0.length + l.length))) e)
        have hge := grownCap_ge w (l0.length + l.length) cap e
        obtain ⟨γ', h2⟩ := own_grow_x h hd hS hw (zs := bytesV (l0 ++ l)) (cap := grownCap w (l0.length + l.length) cap e) (us := rawB (l0 ++ l))
          (by rw [bytesV_len]; omega) (grownCap_le_maxLen _ _ _ _ r1) bytesV_cells hlz (fun k hk => by
            rw [Array.getElem?_append_left (by simpa [rawB_len] using hk), hrawapp]; simp) rawB_one rawB_rel (by
            simp only [Array.size_append, List.size_toArray, size_zeroCells, hzs, rawB_len]; omega) (by rw [bytesV_len]; omega) (cl := .e) (xr := .bb e σ (l0 ++ l)) (fun γ' q => by
            refine to_bb (by simp [lookS, bytesV_len]) (by simpa [bytesV_len] using q) (fun g' m cap' hv' => ?_)
            cases hv'
            exact ⟨_, _, hw.new⟩)
        rw [bytesV_len, hlen2] at h2
        exact ⟨_, _, γ', .inl (run_appStr_call hop hc hargs hts (by rw [hv, hs1]; exact hr)), h2⟩

end ops
end Go.Proofs.Ytpiafiapjmldgaa
