/-
  The law 'FnStepAck' is proved: it returns true whatever the input, and the input reads as it did. No condition.
-/
import Derived.Test.YticdkjaojhhnhaaGreatQ30
import Derived.Test.YticdkjaojhhnhaaGreatRows
namespace Go.Proofs.YticdkjaojhhnhaaGreat
set_option linter.all false
section
set_option maxRecDepth 200000
set_option maxHeartbeats 8000000
attribute [-simp] List.getD_eq_getElem?_getD

theorem FnStepAck_ok (code : List UInt8) : Fn Tryz.prog fn_laws_FnStepAck [bsl code] [] (.bool true) [] := by
  obtain ⟨x, p, hx, hp, f1⟩ := DrawAssocStep_ok code
  have g1 := impl_AssocStep_ok x p hx.bd (by omega)
  have g2 := spec_AssocStep_ok x p hx.bd (by omega)
  have g3 := sameInts_self (stepS x p).2 (by have := stepS_len x p; omega)
  have g4 := sameAssoc_self (stepS x p).1 (stepS_bd p)
  have hm := srcN (x := x) (p := p)
  generalize stepS x p = r at *
  obtain ⟨y, rl⟩ := r
  simp only at hm
  simp only [assoc_v, packet_v, isl] at f1 g1 g2 g3 g4
  refine Fn.of_go ln_laws_FnStepAck rfl ?_
  simp [ac_laws_FnStepAck, bsl]
  refine goTest_dec (fun h0 => ?_) (fun h0 => ?_)
  · simp
    exact Ends.mk [] [] (by simp)
  simp
  refine goCall_eq f1 (by simp [bsl]) ?_
  simp
  refine goCall_eq g1 (by simp) ?_
  simp
  refine goCall_eq g2 (by simp) ?_
  simp
  refine goCall_eq g3 (by simp) ?_
  simp
  refine goCall_eq g4 (by simp) ?_
  simp
  cases h1 : decide (y.src = 0)
  rotate_left
  · simp
    refine goCall_eq g3 (by simp) ?_
    simp
    refine goCall_eq g4 (by simp) ?_
    simp
    exact Ends.mk [] [] (by simp)
  have hm := hm h1
  simp
  cases h2 : decide (x.state = 4)
  · simp
    refine goCall_eq g3 (by simp) ?_
    simp
    refine goCall_eq g4 (by simp) ?_
    simp
    exact Ends.mk [] [] (by simp)
  have hxo := (mine_iff.1 hm).1
  have ho := OpenA.mk' hxo (of_decide_eq_true h2)
  have hf := ho.first
  have hl := ho.len
  have hin : inS x.a.first = true := by simp [inS]; omega
  have s1 := impl_SerialAdd_ok x.a.first x.a.sent.length (by omega)
  have s2 := impl_SerialAdd_ok x.a.first (x.a.sent.length - 1) (by omega)
  rw [hin] at s1 s2
  simp only [if_true] at s1 s2
  obtain ⟨c1, e1, e2, e3, e4⟩ := putSack_some (addS_rng x.a.first x.a.sent.length)
  obtain ⟨c2, e5, e6, e7, e8⟩ := putSack_some (addS_rng x.a.first (x.a.sent.length - 1))
  have p1 := impl_SackPut_ok ⟨addS x.a.first x.a.sent.length, []⟩ (by simp)
  have p2 := impl_SackPut_ok ⟨addS x.a.first (x.a.sent.length - 1), []⟩ (by simp)
  rw [opt_getS _ e1] at p1
  rw [opt_getS _ e5] at p2
  have q1 := from_ok x true c1
  have q2 := from_ok x true c2
  have t1 := one_from hxo true e4 (by omega) (step_ack9 ho e3 e2) (by omega)
  have t2 := fine_from hxo true e8 (by omega) (step_ack0 ho e7 e6)
  have a1 := impl_AssocStep_ok x (fromS x true c1) hx.bd (by simp [fromS])
  have a2 := impl_AssocStep_ok x (fromS x true c2) hx.bd (by simp [fromS])
  rw [t1] at a1
  rw [t2] at a2
  have o1 := one_ok [9] 9
  simp only [assoc_v, from_v, sk_v, chunk_v, isl, if_true] at p1 p2 q1 q2 a1 a2 o1
  generalize addS x.a.first x.a.sent.length = v1 at *
  generalize addS x.a.first (x.a.sent.length - 1) = v2 at *
  simp
  refine goCall_eq s1 (by simp) ?_
  simp
  refine goCall_gen [] [] [] [] none p1 (by simp) ?_
  simp
  refine goDCall_eq q1 (by simp) (by simp) ?_
  simp
  refine goDCall_eq a1 (by simp) (by simp) ?_
  simp
  refine ⟨by omega, ?_⟩
  refine goCall_eq s2 (by simp) ?_
  simp
  refine goCall_gen [] [] [] [] none p2 (by simp) ?_
  simp
  refine goDCall_eq q2 (by simp) (by simp) ?_
  simp
  refine goDCall_eq a2 (by simp) (by simp) ?_
  simp
  refine goCall_eq o1 (by simp) ?_
  simp
  exact Ends.mk [] [] (by simp)
end
end Go.Proofs.YticdkjaojhhnhaaGreat

namespace Go.Proofs.YticdkjaojhhnhaaGreat.fnStepAck
set_option linter.all false
open Go.ChangeShapes Go.WideShapes Go.ChangeAt Go.RowKit

theorem own : ownKnob Tryz.prog.godebug = none := by kernel_rfl
theorem laidOut : laidOutB Tryz.prog = true := by kernel_rfl

set_option maxRecDepth 100000 in
theorem lifted (os : Os) (started : os.Started) (H : Type) (enc : TypeId × Value → H) :
    ReturnsInHanded {} Tryz.checked os 3 .any (Rows.fnStepAckSpec.pre6 enc Tryz.prog Tryz.f3 Rows.fnStepAckRow.domain false) (Rows.fnStepAckSpec.post enc Tryz.prog Tryz.f3 false true false false) := by
  refine returnsInHanded_of_change_shaped (C := Tryz.checked) own started (by kernel_rfl) Tryz.func3
    (ChangeSpec.witness6 (enc := enc) (C := Tryz.checked) false ⟨#[], #[.slice none 0 0], []⟩ 8 (by kernel_rfl) (by kernel_rfl) (by kernel_rfl) (by kernel_rfl)) ?_
  intro W base args ds gs before hval0 hW _ _ hsh _
  have hval : ∀ (j : Nat) t v, Tryz.f3.params[j]? = some t → args[j]? = some v → Value.okWide Tryz.prog W .any base t v := hval0
  have hW' := hW
  obtain ⟨p, q, hA0, hV, rfl, hfz, hnd⟩ := hW
  have hA : DataW.TrodAll enc Tryz.prog W 0 (fun _ => true) true Tryz.f3.params.toList args.toList ds p := hA0
  rw [Tryz.params3] at hA hval
  obtain ⟨v0, d0, rfl, rfl, h0⟩ := trodAll_one hA
  obtain ⟨rfl, rfl⟩ := trodVars_none hV
  clear hA0 hval0
  simp only [List.append_nil] at hW'
  obtain ⟨l0, hl0⟩ := open_bytes Tryz.underlying22 Tryz.underlying5 (by kernel_rfl) (hval 0 22 v0 rfl rfl) h0
  refine ((FnStepAck_ok l0).calls_true rfl W [v0] (tabsW W hsh) (rel_one hl0)).mono fun e W' ⟨he, hb⟩ => ?_
  subst he
  have hlt : ∀ x ∈ p, x.block < W.heap.size := fun x hx => by simpa using hW'.lt x hx
  have hargs := Below.trod laidOut (by kernel_rfl) (of_decide_eq_true (by kernel_rfl)) h0 hb hlt
  exact ⟨_, rfl, ⟨_, _, _, [], _, [], hW', trodAll_mk1 (shut_bool Tryz.underlying4 _), trodAll_mk1 hargs, rfl, hb.frame _, fun h => by cases h⟩⟩

theorem proved : Rows.FnStepAckSaid :=
  OpenClaim.holds_of_wide 3 Tryz.f3 rfl rfl rfl rfl rfl rfl rfl ⟨rfl, rfl, rfl, rfl, rfl⟩ rfl rfl rfl rfl rfl (by kernel_rfl) Tryz.func3 (by kernel_rfl)
    (of_decide_eq_true (by kernel_rfl)) (by unfold Func.isWrapper; first | (rw [if_pos (by decide +kernel)]; kernel_rfl) | (rw [if_neg (by decide +kernel)]; exact ⟨rfl, rfl⟩))
    (fun os started H enc _ => lifted os started H enc)
end Go.Proofs.YticdkjaojhhnhaaGreat.fnStepAck
