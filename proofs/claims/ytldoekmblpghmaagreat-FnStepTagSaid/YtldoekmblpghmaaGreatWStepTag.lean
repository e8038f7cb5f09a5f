/-
  The law 'FnStepTag' is proved: it returns true whatever the input, and the input reads as it did. No condition.
-/
import Derived.Test.YtldoekmblpghmaaGreatQ29
import Derived.Test.YtldoekmblpghmaaGreatRows
namespace Go.Proofs.YtldoekmblpghmaaGreat
set_option linter.all false
section
set_option maxRecDepth 100000
def ac_laws_FnStepTag : AF := ⟨[0, 1, 4, 5, 6, 7, 8, 9, 10, 11, 13, 21, 58], [.t 4],
  .seq (.region [⟨(.g 4), .mv (.c (.bool false)), none⟩])
  (.seq (.seq (.region [⟨(.l 14), .mv (.g 0), none⟩, ⟨(.l 15), .len (.l 14), none⟩, ⟨(.l 16), .bin .gtr (.l 15) (.c (.int .i64 1048576)), none⟩, ⟨(.l 17), .mv (.l 16), none⟩, ⟨(.l 18), .mv (.g 1), (some ((.l 17), false))⟩, ⟨(.l 19), .len (.l 18), (some ((.l 17), false))⟩, ⟨(.l 20), .bin .gtr (.l 19) (.c (.int .i64 1048576)), (some ((.l 17), false))⟩, ⟨(.g 21), .pick (.l 17) (.c (.bool true)) (.l 20), none⟩])
  (.cond (.g 21) (.seq (.region [⟨(.g 4), .mv (.c (.bool true)), none⟩])
   (.ret))
  (.skip)))
  (.seq (.region [⟨(.l 23), .mv (.g 0), none⟩, ⟨(.l 24), .call fn_spec_DrawAssocStep [(.l 23)], none⟩, ⟨(.l 22), .mv (.l 24), none⟩, ⟨(.l 25), .extract (.l 22) 0, none⟩, ⟨(.l 26), .extract (.l 22) 1, none⟩, ⟨(.g 5), .alloc [(.int .i64 0), (.int .i64 0), (.int .i64 0), (.bool false), (.int .i64 0), (.int .i64 0), (.int .i64 0), .nils, (.int .i64 0), (.int .i64 0), (.int .i64 0), (.int .i64 0), .nils, (.int .i64 0)], none⟩, ⟨(.g 6), .alloc [(.int .i64 0), (.int .i64 0), (.int .i64 0), .nils], none⟩, ⟨.no, .store 14 (.g 5) (.l 25), none⟩, ⟨.no, .store 4 (.g 6) (.l 26), none⟩])
  (.seq (.region [⟨(.l 28), .load true 14 (.g 5), none⟩, ⟨(.l 29), .load true 4 (.g 6), none⟩, ⟨(.l 30), .call fn_impl_AssocStep [(.l 28), (.l 29)], none⟩, ⟨(.l 27), .mv (.l 30), none⟩, ⟨(.l 31), .extract (.l 27) 0, none⟩, ⟨(.l 32), .extract (.l 27) 1, none⟩, ⟨(.g 7), .alloc [(.int .i64 0), (.int .i64 0), (.int .i64 0), (.bool false), (.int .i64 0), (.int .i64 0), (.int .i64 0), .nils, (.int .i64 0), (.int .i64 0), (.int .i64 0), (.int .i64 0), .nils, (.int .i64 0)], none⟩, ⟨.no, .store 14 (.g 7) (.l 31), none⟩, ⟨(.g 8), .mv (.l 32), none⟩])
  (.seq (.region [⟨(.l 34), .load true 14 (.g 5), none⟩, ⟨(.l 35), .load true 4 (.g 6), none⟩, ⟨(.l 36), .call fn_spec_AssocStep [(.l 34), (.l 35)], none⟩, ⟨(.l 33), .mv (.l 36), none⟩, ⟨(.l 37), .extract (.l 33) 0, none⟩, ⟨(.l 38), .extract (.l 33) 1, none⟩, ⟨(.g 9), .alloc [(.int .i64 0), (.int .i64 0), (.int .i64 0), (.bool false), (.int .i64 0), (.int .i64 0), (.int .i64 0), .nils, (.int .i64 0), (.int .i64 0), (.int .i64 0), (.int .i64 0), .nils, (.int .i64 0)], none⟩, ⟨.no, .store 14 (.g 9) (.l 37), none⟩, ⟨(.g 10), .mv (.l 38), none⟩])
  (.seq (.seq (.region [⟨(.l 39), .mv (.g 8), none⟩, ⟨(.l 40), .mv (.g 10), none⟩, ⟨(.l 41), .call fn_laws_sameInts [(.l 39), (.l 40)], none⟩, ⟨(.l 42), .un .not (.l 41), none⟩, ⟨(.l 43), .mv (.l 42), none⟩, ⟨(.l 44), .load true 14 (.g 7), (some ((.l 43), false))⟩, ⟨(.l 45), .load true 14 (.g 9), (some ((.l 43), false))⟩, ⟨(.l 46), .call fn_laws_sameAssoc [(.l 44), (.l 45)], (some ((.l 43), false))⟩, ⟨(.l 47), .un .not (.l 46), (some ((.l 43), false))⟩, ⟨(.l 48), .pick (.l 43) (.c (.bool true)) (.l 47), none⟩, ⟨(.l 49), .mv (.l 48), none⟩, ⟨(.l 50), .faddr 0 (.g 9), (some ((.l 49), false))⟩, ⟨(.l 51), .load false 1 (.l 50), (some ((.l 49), false))⟩, ⟨(.l 52), .bin .eql (.l 51) (.c (.int .i64 0)), (some ((.l 49), false))⟩, ⟨(.l 53), .pick (.l 49) (.c (.bool true)) (.l 52), none⟩, ⟨(.l 54), .mv (.l 53), none⟩, ⟨(.l 55), .mv (.g 8), (some ((.l 54), false))⟩, ⟨(.l 56), .len (.l 55), (some ((.l 54), false))⟩, ⟨(.l 57), .bin .gtr (.l 56) (.c (.int .i64 0)), (some ((.l 54), false))⟩, ⟨(.g 58), .pick (.l 54) (.c (.bool true)) (.l 57), none⟩])
  (.cond (.g 58) (.seq (.region [⟨(.l 59), .mv (.g 8), none⟩, ⟨(.l 60), .mv (.g 10), none⟩, ⟨(.l 61), .call fn_laws_sameInts [(.l 59), (.l 60)], none⟩, ⟨(.l 62), .mv (.l 61), none⟩, ⟨(.l 63), .load true 14 (.g 7), (some ((.l 62), true))⟩, ⟨(.l 64), .load true 14 (.g 9), (some ((.l 62), true))⟩, ⟨(.l 65), .call fn_laws_sameAssoc [(.l 63), (.l 64)], (some ((.l 62), true))⟩, ⟨(.l 66), .pick (.l 62) (.l 65) (.c (.bool false)), none⟩, ⟨(.g 4), .mv (.l 66), none⟩])
   (.ret))
  (.skip)))
  (.seq (.region [⟨(.l 67), .load true 4 (.g 6), none⟩, ⟨(.g 11), .alloc [(.int .i64 0), (.int .i64 0), (.int .i64 0), .nils], none⟩, ⟨.no, .store 4 (.g 11) (.l 67), none⟩])
  (.seq (.region [⟨(.l 68), .faddr 2 (.g 6), none⟩, ⟨(.l 69), .load false 1 (.l 68), none⟩, ⟨(.l 70), .bin .add (.l 69) (.c (.int .i64 1)), none⟩, ⟨(.l 71), .mv (.g 1), none⟩, ⟨(.l 72), .len (.l 71), none⟩, ⟨(.l 73), .bin .rem (.l 72) (.c (.int .i64 1000)), none⟩, ⟨(.l 74), .bin .add (.l 70) (.l 73), none⟩, ⟨(.l 75), .bin .rem (.l 74) (.c (.int .i64 4294967295)), none⟩, ⟨(.l 76), .faddr 2 (.g 11), none⟩, ⟨.no, .store 1 (.l 76) (.l 75), none⟩])
  (.seq (.region [⟨(.l 78), .load true 14 (.g 5), none⟩, ⟨(.l 79), .load true 4 (.g 11), none⟩, ⟨(.l 80), .call fn_impl_AssocStep [(.l 78), (.l 79)], none⟩, ⟨(.l 77), .mv (.l 80), none⟩, ⟨(.l 81), .extract (.l 77) 0, none⟩, ⟨(.l 82), .extract (.l 77) 1, none⟩, ⟨(.l 12), .alloc [(.int .i64 0), (.int .i64 0), (.int .i64 0), (.bool false), (.int .i64 0), (.int .i64 0), (.int .i64 0), .nils, (.int .i64 0), (.int .i64 0), (.int .i64 0), (.int .i64 0), .nils, (.int .i64 0)], none⟩, ⟨.no, .store 14 (.l 12) (.l 81), none⟩, ⟨(.g 13), .mv (.l 82), none⟩])
  (.seq (.region [⟨(.l 83), .mv (.g 13), none⟩, ⟨(.l 84), .call fn_laws_one [(.l 83), (.c (.int .i64 2))], none⟩, ⟨(.g 4), .mv (.l 84), none⟩])
  (.ret))))))))))⟩
theorem ln_laws_FnStepTag : Linked Tryz.prog fn_laws_FnStepTag ac_laws_FnStepTag := ⟨Tryz.f8, _, Tryz.func8, rfl, by kernel_rfl, by kernel_rfl, by kernel_rfl, by kernel_rfl⟩
end
end Go.Proofs.YtldoekmblpghmaaGreat

namespace Go.Proofs.YtldoekmblpghmaaGreat
set_option linter.all false
section
set_option maxRecDepth 200000
set_option maxHeartbeats 8000000
attribute [-simp] List.getD_eq_getElem?_getD

theorem FnStepTag_ok (code more : List UInt8) : Fn Tryz.prog fn_laws_FnStepTag [bsl code, bsl more] [] (.bool true) [] := by
  obtain ⟨x, p, hx, hp, f1⟩ := DrawAssocStep_ok code
  have g1 := impl_AssocStep_ok x p hx.bd (by omega)
  have g2 := spec_AssocStep_ok x p hx.bd (by omega)
  have g3 := sameInts_self (stepS x p).2 (by have := stepS_len x p; omega)
  have g4 := sameAssoc_self (stepS x p).1 (stepS_bd p)
  have hm := srcN (x := x) (p := p)
  have hbd := stepS_bd (x := x) p
  have hln := stepS_len x p
  have k := step_tag (x := x) (p := p)
  have o1 := one_ok [2] 2
  generalize stepS x p = r at *
  obtain ⟨y, rl⟩ := r
  simp only at hm hbd hln k
  simp only [assoc_v, packet_v, isl] at f1 g1 g2 g3 g4 o1
  refine Fn.of_go ln_laws_FnStepTag rfl ?_
  simp [ac_laws_FnStepTag, bsl]
  cases h0 : decide (1048576 < code.length)
  rotate_left
  · simp
    exact Ends.mk [] [] (by simp)
  simp
  cases h00 : decide (1048576 < more.length)
  rotate_left
  · simp
    exact Ends.mk [] [] (by simp)
  simp
  refine goCall_eq f1 (by simp [bsl]) ?_
  simp
  refine goCall_eq g1 (by simp) ?_
  simp
  refine goCall_eq g2 (by simp) ?_
  simp
  refine goCall_eq g3 (by simp) ?_
  simp
  refine goCall_eq g4 (by simp) ?_
  simp
  cases h1 : decide (y.src = 0)
  rotate_left
  · simp
    refine goCall_eq g3 (by simp) ?_
    simp
    refine goCall_eq g4 (by simp) ?_
    simp
    exact Ends.mk [] [] (by simp)
  have hm := hm h1
  simp
  cases h2 : decide (0 < rl.length)
  rotate_left
  · simp
    refine goCall_eq g3 (by simp) ?_
    simp
    refine goCall_eq g4 (by simp) ?_
    simp
    exact Ends.mk [] [] (by simp)
  simp
  have e2 : rl = [] := by cases rl with | nil => rfl | cons a l => simp at h2
  have htg := (packet_ok.1 (mine_iff.1 hm).2.1).2.2.2.2.1
  have hmo : 0 ≤ ((more.length : Int)).tmod 1000 ∧ ((more.length : Int)).tmod 1000 < 1000 := by
    rw [Int.tmod_eq_emod_of_nonneg (by omega)]; omega
  generalize ((more.length : Int)).tmod 1000 = e at *
  have hv : 0 ≤ (p.tag + 1 + e).tmod 4294967295 ∧ (p.tag + 1 + e).tmod 4294967295 ≤ 4294967295 ∧ (p.tag + 1 + e).tmod 4294967295 ≠ p.tag := by
    rw [Int.tmod_eq_emod_of_nonneg (by omega)]; omega
  have k := k hm e2 ((p.tag + 1 + e).tmod 4294967295) ⟨hv.1, hv.2.1⟩ hv.2.2
  generalize (p.tag + 1 + e).tmod 4294967295 = tg at *
  have a1 := impl_AssocStep_ok x { p with tag := tg } hx.bd (by simp only; omega)
  generalize stepS x { p with tag := tg } = r2 at *
  obtain ⟨y2, rl2⟩ := r2
  simp only at k
  subst k
  simp only [assoc_v, packet_v, isl] at a1
  refine ⟨by omega, by omega, ?_⟩
  refine goCall_eq a1 (by simp) ?_
  simp
  refine goCall_eq o1 (by simp) ?_
  simp
  exact Ends.mk [] [] (by simp)
end
end Go.Proofs.YtldoekmblpghmaaGreat

namespace Go.Proofs.YtldoekmblpghmaaGreat.fnStepTag
set_option linter.all false
open Go.ChangeShapes Go.WideShapes Go.ChangeAt Go.RowKit

theorem own : ownKnob Tryz.prog.godebug = none := by kernel_rfl
theorem laidOut : laidOutB Tryz.prog = true := by kernel_rfl

set_option maxRecDepth 100000 in
theorem lifted (os : Os) (started : os.Started) (H : Type) (enc : TypeId × Value → H) :
    ReturnsInHanded {} Tryz.checked os 8 .any (Rows.fnStepTagSpec.pre6 enc Tryz.prog Tryz.f8 Rows.fnStepTagRow.domain false) (Rows.fnStepTagSpec.post enc Tryz.prog Tryz.f8 false true false false) := by
  refine returnsInHanded_of_change_shaped (C := Tryz.checked) own started (by kernel_rfl) Tryz.func8
    (ChangeSpec.witness6 (enc := enc) (C := Tryz.checked) false ⟨#[], #[.slice none 0 0, .slice none 0 0], []⟩ 8 (by kernel_rfl) (by kernel_rfl) (by kernel_rfl) (by kernel_rfl)) ?_
  intro W base args ds gs before hval0 hW _ _ hsh _
  have hval : ∀ (j : Nat) t v, Tryz.f8.params[j]? = some t → args[j]? = some v → Value.okWide Tryz.prog W .any base t v := hval0
  have hW' := hW
  obtain ⟨p, q, hA0, hV, rfl, hfz, hnd⟩ := hW
  have hA : DataW.TrodAll enc Tryz.prog W 0 (fun _ => true) true Tryz.f8.params.toList args.toList ds p := hA0
  rw [Tryz.params8] at hA hval
  obtain ⟨v0, v1, d0, d1, p0, p1, rfl, rfl, rfl, h0, h1⟩ := trodAll_two hA
  obtain ⟨rfl, rfl⟩ := trodVars_none hV
  clear hA0 hval0
  simp only [List.append_nil] at hW'
  obtain ⟨l0, hl0⟩ := open_bytes Tryz.underlying22 Tryz.underlying5 (by kernel_rfl) (hval 0 22 v0 rfl rfl) h0
  obtain ⟨l1, hl1⟩ := open_bytes Tryz.underlying22 Tryz.underlying5 (by kernel_rfl) (hval 1 22 v1 rfl rfl) h1
  refine ((FnStepTag_ok l0 l1).calls_true rfl W [v0, v1] (tabsW W hsh) (rel_two hl0 hl1)).mono fun e W' ⟨he, hb⟩ => ?_
  subst he
  have hlt : ∀ x ∈ p0 ++ p1, x.block < W.heap.size := fun x hx => by simpa using hW'.lt x hx
  have ha0 := Below.trod laidOut (by kernel_rfl) (of_decide_eq_true (by kernel_rfl)) h0 hb (fun x hx => hlt x (List.mem_append_left _ hx))
  have ha1 := Below.trod laidOut (by kernel_rfl) (of_decide_eq_true (by kernel_rfl)) h1 hb (fun x hx => hlt x (List.mem_append_right _ hx))
  exact ⟨_, rfl, ⟨_, _, _, [], _, [], hW', trodAll_mk1 (shut_bool Tryz.underlying4 _), trodAll_mk2 ha0 ha1, rfl, hb.frame _, fun h => by cases h⟩⟩

theorem closed : joinedFacts Tryz.prog 8 Tryz.f8 Rows.fnStepTagSpec Rows.fnStepTagRow = true := by
  have key : ∀ P : Program, P = Tryz.prog → P.mayEnter = true → P.liftsFinal = false → P.make = some .cut → joinedFacts P 8 Tryz.f8 Rows.fnStepTagSpec Rows.fnStepTagRow = true := by
    intro P hP h1 h2 h3
    unfold joinedFacts
    rw [h1, h2, h3]
    subst hP
    kernel_rfl
  exact key _ rfl enters finals makes

theorem proved : Rows.FnStepTagSaid :=
  OpenClaim.holds_of_wide 8 Tryz.f8 rfl rfl rfl rfl rfl rfl rfl ⟨rfl, rfl, rfl, rfl, rfl⟩ rfl rfl rfl rfl rfl (by kernel_rfl) Tryz.func8 closed
    (of_decide_eq_true (by kernel_rfl)) (by unfold Func.isWrapper; first | (rw [if_pos (by decide +kernel)]; kernel_rfl) | (rw [if_neg (by decide +kernel)]; exact ⟨rfl, rfl⟩))
    (fun os started H enc _ => lifted os started H enc)
end Go.Proofs.YtldoekmblpghmaaGreat.fnStepTag
