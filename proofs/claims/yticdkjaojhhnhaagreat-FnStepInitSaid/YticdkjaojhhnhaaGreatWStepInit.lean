/-
  The law 'FnStepInit' is proved: it returns true whatever the input, and the input reads as it did. No condition.
-/
import Derived.Test.YticdkjaojhhnhaaGreatV30
import Derived.Test.YticdkjaojhhnhaaGreatRows
namespace Go.Proofs.YticdkjaojhhnhaaGreat
set_option linter.all false
section
set_option maxRecDepth 200000
set_option maxHeartbeats 8000000
attribute [-simp] List.getD_eq_getElem?_getD

/-- What an init is, and what an answer. -/
inductive IpR : V → List (List V) → Prop
  | mk (x : Hello) (b : Bool) : IpR (.tup [x.v, .bool b]) []

theorem DrawInitPut_ok (code : List UInt8) : ∃ (x : Hello) (b : Bool), Fn Tryz.prog fn_spec_DrawInitPut [bsl code] [] (.tup [x.v, .bool b]) [] := by
  obtain ⟨src, ho⟩ : ∃ s, Fn Tryz.prog fn_spec_l6Open [bsl code] [] (.ptr 1000 0) [[bsl s, .int .i64 0]] := ⟨_, open_ok code⟩
  suffices h : ∃ R bo, IpR R bo ∧ Fn Tryz.prog fn_spec_DrawInitPut [bsl code] [] R bo by
    obtain ⟨_, _, ⟨x, b⟩, f⟩ := h
    exact ⟨x, b, f⟩
  refine Fx.of_go ln_spec_DrawInitPut rfl ?_
  simp only [bsl] at ho
  simp [ac_spec_DrawInitPut, bsl]
  refine goCall_gen [] [] [] [] (some 1000) ho (by simp [bsl]) ?_
  simp [bsl]
  obtain ⟨_, _, ⟨t, w, s, n, b, hb⟩, f1⟩ := l91Init_ok src 0 (by omega)
  simp only [bsl] at f1
  refine goCall_gen [] [(1000, 7)] [] [] none f1 (by simp [bsl]) ?_
  simp [bsl]
  obtain ⟨r1, h1, f2⟩ := pickI src b 2 (by omega) (by omega)
  simp only [bsl] at f2
  refine goDCall_gen [] [(1000, 7)] [] [] none f2 (by simp [bsl]) (by simp [bsl]) ?_
  simp
  exact ⟨_, _, .mk ⟨t, w, s, n⟩ (decide (r1 = 0)), Ends.mk [] [] (by simp [Hello.v, Hello.cells])⟩

theorem FnStepInit_ok (code more : List UInt8) : Fn Tryz.prog fn_laws_FnStepInit [bsl code, bsl more] [] (.bool true) [] := by
  obtain ⟨x, p, hx, hp, f1⟩ := DrawAssocStep_ok code
  obtain ⟨h, b, f2⟩ := DrawInitPut_ok more
  have f3 := impl_InitPut_ok h false
  have key : ∃ c ok, Fn Tryz.prog fn_impl_InitPut [h.v, .bool false] [] (.tup [Chunk.v c, .bool ok]) [] ∧ (ok = true → c.kind = 1 ∧ getHello c = some h) := by
    cases hk : h.ok with
    | false =>
      have e : putHello h false = none := by unfold putHello; simp [hk]
      rw [e] at f3
      exact ⟨zChunk, false, f3, fun q => absurd q (by simp)⟩
    | true =>
      obtain ⟨c, e1, e2, e3, e4⟩ := putHello_some hk false
      rw [opt_getS _ e1] at f3
      exact ⟨c, true, f3, fun _ => ⟨e3, e2⟩⟩
  obtain ⟨c, ok, f4, hc⟩ := key
  clear f3
  generalize hq : (⟨x.src, x.dst, 0, [c]⟩ : Packet) = q
  have hql : q.chunks.length ≤ 9 := by subst hq; simp
  have g1 := impl_AssocStep_ok (newA x.src x.dst) q (newA_bd _ _) (by omega)
  have g2 := spec_AssocStep_ok (newA x.src x.dst) q (newA_bd _ _) (by omega)
  have g3 := sameInts_self (stepS (newA x.src x.dst) q).2 (by have := stepS_len (newA x.src x.dst) q; omega)
  have g4 := sameAssoc_self (stepS (newA x.src x.dst) q).1 (stepS_bd q)
  have hm := srcN (x := newA x.src x.dst) (p := q)
  have hs : mineS (newA x.src x.dst) q = true → ok = true → stepS (newA x.src x.dst) q = (⟨x.src, x.dst, 1, false, ⟨h.tag, h.streams, h.tsn, [], 0⟩, zSide⟩, []) := by
    subst hq
    exact fun a b => step_begin a (hc b).1 (hc b).2
  generalize stepS (newA x.src x.dst) q = r at *
  obtain ⟨y, rl⟩ := r
  subst hq
  have g5 := sameSide_ok ⟨h.tag, h.streams, h.tsn, [], 0⟩ ⟨h.tag, h.streams, h.tsn, [], 0⟩ (by simp)
  simp only at hm hs
  rw [newA_v] at g1 g2
  simp only [assoc_v, packet_v, isl, List.map_cons, List.map_nil, chunk_v, Hello.v, Hello.cells, side_v] at f1 f2 f4 g1 g2 g3 g4 g5
  refine Fn.of_go ln_laws_FnStepInit rfl ?_
  simp [ac_laws_FnStepInit, bsl]
  cases h0 : decide (1048576 < code.length)
  rotate_left
  · simp
    exact Ends.mk [] [] (by simp)
  simp
  cases h00 : decide (1048576 < more.length)
  rotate_left
  · simp
    exact Ends.mk [] [] (by simp)
  simp
  refine goCall_eq f1 (by simp [bsl]) ?_
  simp
  refine goCall_eq f2 (by simp [bsl]) ?_
  simp
  refine goCall_eq f4 (by simp [bsl]) ?_
  simp
  refine goCall_gen [] [] [784] [] none g1 (by simp) ?_
  simp
  refine goCall_gen [] [] [] [] none g2 (by simp) ?_
  simp
  refine goCall_eq g3 (by simp) ?_
  simp
  refine goCall_eq g4 (by simp) ?_
  simp
  cases hok : ok
  · simp
    refine goCall_eq g3 (by simp) ?_
    simp
    refine goCall_eq g4 (by simp) ?_
    simp
    exact Ends.mk [] [] (by simp)
  simp
  cases h1 : decide (y.src = 0)
  rotate_left
  · simp
    refine goCall_eq g3 (by simp) ?_
    simp
    refine goCall_eq g4 (by simp) ?_
    simp
    exact Ends.mk [] [] (by simp)
  have hs := hs (hm h1) hok
  injection hs with hs1 hs2
  subst hs1 hs2
  simp [zSide]
  refine goCall_gen [] [] [] [] none g5 (by simp) ?_
  simp
  exact Ends.mk [] [] (by simp)
end
end Go.Proofs.YticdkjaojhhnhaaGreat

namespace Go.Proofs.YticdkjaojhhnhaaGreat.fnStepInit
set_option linter.all false
open Go.ChangeShapes Go.WideShapes Go.ChangeAt Go.RowKit

theorem own : ownKnob Tryz.prog.godebug = none := by kernel_rfl
theorem laidOut : laidOutB Tryz.prog = true := by kernel_rfl

set_option maxRecDepth 100000 in
theorem lifted (os : Os) (started : os.Started) (H : Type) (enc : TypeId × Value → H) :
    ReturnsInHanded {} Tryz.checked os 4 .any (Rows.fnStepInitSpec.pre6 enc Tryz.prog Tryz.f4 Rows.fnStepInitRow.domain false) (Rows.fnStepInitSpec.post enc Tryz.prog Tryz.f4 false true false false) := by
  refine returnsInHanded_of_change_shaped (C := Tryz.checked) own started (by kernel_rfl) Tryz.func4
    (ChangeSpec.witness6 (enc := enc) (C := Tryz.checked) false ⟨#[], #[.slice none 0 0, .slice none 0 0], []⟩ 8 (by kernel_rfl) (by kernel_rfl) (by kernel_rfl) (by kernel_rfl)) ?_
  intro W base args ds gs before hval0 hW _ _ hsh _
  have hval : ∀ (j : Nat) t v, Tryz.f4.params[j]? = some t → args[j]? = some v → Value.okWide Tryz.prog W .any base t v := hval0
  have hW' := hW
  obtain ⟨p, q, hA0, hV, rfl, hfz, hnd⟩ := hW
  have hA : DataW.TrodAll enc Tryz.prog W 0 (fun _ => true) true Tryz.f4.params.toList args.toList ds p := hA0
  rw [Tryz.params4] at hA hval
  obtain ⟨v0, v1, d0, d1, p0, p1, rfl, rfl, rfl, h0, h1⟩ := trodAll_two hA
  obtain ⟨rfl, rfl⟩ := trodVars_none hV
  clear hA0 hval0
  simp only [List.append_nil] at hW'
  obtain ⟨l0, hl0⟩ := open_bytes Tryz.underlying22 Tryz.underlying5 (by kernel_rfl) (hval 0 22 v0 rfl rfl) h0
  obtain ⟨l1, hl1⟩ := open_bytes Tryz.underlying22 Tryz.underlying5 (by kernel_rfl) (hval 1 22 v1 rfl rfl) h1
  refine ((FnStepInit_ok l0 l1).calls_true rfl W [v0, v1] (tabsW W hsh) (rel_two hl0 hl1)).mono fun e W' ⟨he, hb⟩ => ?_
  subst he
  have hlt : ∀ x ∈ p0 ++ p1, x.block < W.heap.size := fun x hx => by simpa using hW'.lt x hx
  have ha0 := Below.trod laidOut (by kernel_rfl) (of_decide_eq_true (by kernel_rfl)) h0 hb (fun x hx => hlt x (List.mem_append_left _ hx))
  have ha1 := Below.trod laidOut (by kernel_rfl) (of_decide_eq_true (by kernel_rfl)) h1 hb (fun x hx => hlt x (List.mem_append_right _ hx))
  exact ⟨_, rfl, ⟨_, _, _, [], _, [], hW', trodAll_mk1 (shut_bool Tryz.underlying4 _), trodAll_mk2 ha0 ha1, rfl, hb.frame _, fun h => by cases h⟩⟩

theorem proved : Rows.FnStepInitSaid :=
  OpenClaim.holds_of_wide 4 Tryz.f4 rfl rfl rfl rfl rfl rfl rfl ⟨rfl, rfl, rfl, rfl, rfl⟩ rfl rfl rfl rfl rfl (by kernel_rfl) Tryz.func4 (by kernel_rfl)
    (of_decide_eq_true (by kernel_rfl)) (by unfold Func.isWrapper; first | (rw [if_pos (by decide +kernel)]; kernel_rfl) | (rw [if_neg (by decide +kernel)]; exact ⟨rfl, rfl⟩))
    (fun os started H enc _ => lifted os started H enc)
end Go.Proofs.YticdkjaojhhnhaaGreat.fnStepInit
