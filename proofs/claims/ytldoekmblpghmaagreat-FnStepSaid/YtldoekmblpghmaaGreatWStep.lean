/-
  The law 'FnStep' is proved: it returns true whatever the input, and the input reads as it did. No condition.
-/
import Derived.Test.YtldoekmblpghmaaGreatQ29
import Derived.Test.YtldoekmblpghmaaGreatRows
namespace Go.Proofs.YtldoekmblpghmaaGreat
set_option linter.all false
section
set_option maxRecDepth 100000
def ac_laws_FnStep : AF := ⟨[0, 2, 3, 4, 5, 6, 7, 8, 9, 12, 44, 56, 86], [.t 2],
  .seq (.region [⟨(.g 2), .mv (.c (.bool false)), none⟩])
  (.seq (.seq (.region [⟨(.l 10), .mv (.g 0), none⟩, ⟨(.l 11), .len (.l 10), none⟩, ⟨(.g 12), .bin .gtr (.l 11) (.c (.int .i64 1048576)), none⟩])
  (.cond (.g 12) (.seq (.region [⟨(.g 2), .mv (.c (.bool true)), none⟩])
   (.ret))
  (.skip)))
  (.seq (.region [⟨(.l 14), .mv (.g 0), none⟩, ⟨(.l 15), .call fn_spec_DrawAssocStep [(.l 14)], none⟩, ⟨(.l 13), .mv (.l 15), none⟩, ⟨(.l 16), .extract (.l 13) 0, none⟩, ⟨(.l 17), .extract (.l 13) 1, none⟩, ⟨(.g 3), .alloc [(.int .i64 0), (.int .i64 0), (.int .i64 0), (.bool false), (.int .i64 0), (.int .i64 0), (.int .i64 0), .nils, (.int .i64 0), (.int .i64 0), (.int .i64 0), (.int .i64 0), .nils, (.int .i64 0)], none⟩, ⟨(.g 4), .alloc [(.int .i64 0), (.int .i64 0), (.int .i64 0), .nils], none⟩, ⟨.no, .store 14 (.g 3) (.l 16), none⟩, ⟨.no, .store 4 (.g 4) (.l 17), none⟩])
  (.seq (.region [⟨(.l 19), .load true 14 (.g 3), none⟩, ⟨(.l 20), .load true 4 (.g 4), none⟩, ⟨(.l 21), .call fn_impl_AssocStep [(.l 19), (.l 20)], none⟩, ⟨(.l 18), .mv (.l 21), none⟩, ⟨(.l 22), .extract (.l 18) 0, none⟩, ⟨(.l 23), .extract (.l 18) 1, none⟩, ⟨(.g 5), .alloc [(.int .i64 0), (.int .i64 0), (.int .i64 0), (.bool false), (.int .i64 0), (.int .i64 0), (.int .i64 0), .nils, (.int .i64 0), (.int .i64 0), (.int .i64 0), (.int .i64 0), .nils, (.int .i64 0)], none⟩, ⟨.no, .store 14 (.g 5) (.l 22), none⟩, ⟨(.g 6), .mv (.l 23), none⟩])
  (.seq (.region [⟨(.l 25), .load true 14 (.g 3), none⟩, ⟨(.l 26), .load true 4 (.g 4), none⟩, ⟨(.l 27), .call fn_spec_AssocStep [(.l 25), (.l 26)], none⟩, ⟨(.l 24), .mv (.l 27), none⟩, ⟨(.l 28), .extract (.l 24) 0, none⟩, ⟨(.l 29), .extract (.l 24) 1, none⟩, ⟨(.g 7), .alloc [(.int .i64 0), (.int .i64 0), (.int .i64 0), (.bool false), (.int .i64 0), (.int .i64 0), (.int .i64 0), .nils, (.int .i64 0), (.int .i64 0), (.int .i64 0), (.int .i64 0), .nils, (.int .i64 0)], none⟩, ⟨.no, .store 14 (.g 7) (.l 28), none⟩, ⟨(.g 8), .mv (.l 29), none⟩])
  (.seq (.seq (.region [⟨(.l 30), .mv (.g 6), none⟩, ⟨(.l 31), .mv (.g 8), none⟩, ⟨(.l 32), .call fn_laws_sameInts [(.l 30), (.l 31)], none⟩, ⟨(.l 33), .un .not (.l 32), none⟩, ⟨(.l 34), .mv (.l 33), none⟩, ⟨(.l 35), .load true 14 (.g 5), (some ((.l 34), false))⟩, ⟨(.l 36), .load true 14 (.g 7), (some ((.l 34), false))⟩, ⟨(.l 37), .call fn_laws_sameAssoc [(.l 35), (.l 36)], (some ((.l 34), false))⟩, ⟨(.l 38), .un .not (.l 37), (some ((.l 34), false))⟩, ⟨(.l 39), .pick (.l 34) (.c (.bool true)) (.l 38), none⟩, ⟨(.l 40), .mv (.l 39), none⟩, ⟨(.l 41), .faddr 0 (.g 7), (some ((.l 40), false))⟩, ⟨(.l 42), .load false 1 (.l 41), (some ((.l 40), false))⟩, ⟨(.l 43), .bin .eql (.l 42) (.c (.int .i64 0)), (some ((.l 40), false))⟩, ⟨(.g 44), .pick (.l 40) (.c (.bool true)) (.l 43), none⟩])
  (.cond (.g 44) (.seq (.region [⟨(.l 45), .mv (.g 6), none⟩, ⟨(.l 46), .mv (.g 8), none⟩, ⟨(.l 47), .call fn_laws_sameInts [(.l 45), (.l 46)], none⟩, ⟨(.l 48), .mv (.l 47), none⟩, ⟨(.l 49), .load true 14 (.g 5), (some ((.l 48), true))⟩, ⟨(.l 50), .load true 14 (.g 7), (some ((.l 48), true))⟩, ⟨(.l 51), .call fn_laws_sameAssoc [(.l 49), (.l 50)], (some ((.l 48), true))⟩, ⟨(.l 52), .pick (.l 48) (.l 51) (.c (.bool false)), none⟩, ⟨(.g 2), .mv (.l 52), none⟩])
   (.ret))
  (.skip)))
  (.seq (.seq (.region [⟨(.g 9), .mv (.c (.int .i64 0)), none⟩])
  (.block 0 (.loop (.seq (.seq (.region [⟨(.l 53), .mv (.g 9), none⟩, ⟨(.l 54), .mv (.g 6), none⟩, ⟨(.l 55), .len (.l 54), none⟩, ⟨(.g 56), .bin .lss (.l 53) (.l 55), none⟩])
    (.cond (.g 56) (.skip)
    (.exit 0)))
    (.seq (.block 1 (.seq (.drawn [⟨(.l 59), .mv (.g 6), none⟩, ⟨(.l 60), .mv (.g 9), none⟩, ⟨(.l 61), .elS 1 (.l 59) (.l 60), none⟩, ⟨(.l 62), .load false 1 (.l 61), none⟩, ⟨(.l 63), .bin .lss (.l 62) (.c (.int .i64 1)), none⟩, ⟨(.l 64), .mv (.l 63), none⟩, ⟨(.l 65), .mv (.g 6), (some ((.l 64), false))⟩, ⟨(.l 66), .mv (.g 9), (some ((.l 64), false))⟩, ⟨(.l 67), .elS 1 (.l 65) (.l 66), (some ((.l 64), false))⟩, ⟨(.l 68), .load false 1 (.l 67), (some ((.l 64), false))⟩, ⟨(.l 69), .bin .gtr (.l 68) (.c (.int .i64 11)), (some ((.l 64), false))⟩, ⟨(.l 70), .pick (.l 64) (.c (.bool true)) (.l 69), none⟩, ⟨(.l 71), .mv (.l 70), none⟩, ⟨(.l 72), .mv (.g 9), (some ((.l 71), false))⟩, ⟨(.l 73), .bin .gtr (.l 72) (.c (.int .i64 0)), (some ((.l 71), false))⟩, ⟨(.l 74), .mv (.l 73), (some ((.l 71), false))⟩, ⟨(.l 75), .mv (.g 6), (some ((.l 74), true))⟩, ⟨(.l 76), .mv (.g 9), (some ((.l 74), true))⟩, ⟨(.l 77), .bin .sub (.l 76) (.c (.int .i64 1)), (some ((.l 74), true))⟩, ⟨(.l 78), .elS 1 (.l 75) (.l 77), (some ((.l 74), true))⟩, ⟨(.l 79), .load false 1 (.l 78), (some ((.l 74), true))⟩, ⟨(.l 80), .mv (.g 6), (some ((.l 74), true))⟩, ⟨(.l 81), .mv (.g 9), (some ((.l 74), true))⟩, ⟨(.l 82), .elS 1 (.l 80) (.l 81), (some ((.l 74), true))⟩, ⟨(.l 83), .load false 1 (.l 82), (some ((.l 74), true))⟩] [[], [], [], [], [], [], [], [], [], [], [], [], [], [], [], [], [], [], [], [], [], [], [], [20, 19], [20, 19]] [⟨(.l 84), .bin .geq (.l 79) (.l 83), (some ((.l 74), true))⟩, ⟨(.l 85), .pick (.l 74) (.l 84) (.c (.bool false)), (some ((.l 71), false))⟩, ⟨(.g 86), .pick (.l 71) (.c (.bool true)) (.l 85), none⟩])
     (.cond (.g 86) (.seq (.region [⟨(.g 2), .mv (.c (.bool false)), none⟩])
      (.ret))
     (.skip))))
    (.region [⟨(.l 57), .mv (.g 9), none⟩, ⟨(.l 58), .bin .add (.l 57) (.c (.int .i64 1)), none⟩, ⟨(.g 9), .mv (.l 58), none⟩]))))))
  (.seq (.region [⟨(.l 87), .load true 14 (.g 5), none⟩, ⟨(.l 88), .call fn_impl_AssocValid [(.l 87)], none⟩, ⟨(.l 89), .mv (.l 88), none⟩, ⟨(.l 90), .faddr 0 (.g 5), (some ((.l 89), true))⟩, ⟨(.l 91), .load false 1 (.l 90), (some ((.l 89), true))⟩, ⟨(.l 92), .faddr 0 (.g 3), (some ((.l 89), true))⟩, ⟨(.l 93), .load false 1 (.l 92), (some ((.l 89), true))⟩, ⟨(.l 94), .bin .eql (.l 91) (.l 93), (some ((.l 89), true))⟩, ⟨(.l 95), .pick (.l 89) (.l 94) (.c (.bool false)), none⟩, ⟨(.l 96), .mv (.l 95), none⟩, ⟨(.l 97), .faddr 1 (.g 5), (some ((.l 96), true))⟩, ⟨(.l 98), .load false 1 (.l 97), (some ((.l 96), true))⟩, ⟨(.l 99), .faddr 1 (.g 3), (some ((.l 96), true))⟩, ⟨(.l 100), .load false 1 (.l 99), (some ((.l 96), true))⟩, ⟨(.l 101), .bin .eql (.l 98) (.l 100), (some ((.l 96), true))⟩, ⟨(.l 102), .pick (.l 96) (.l 101) (.c (.bool false)), none⟩, ⟨(.g 2), .mv (.l 102), none⟩])
  (.ret))))))))⟩
theorem ln_laws_FnStep : Linked Tryz.prog fn_laws_FnStep ac_laws_FnStep := ⟨Tryz.f3, _, Tryz.func3, rfl, by kernel_rfl, by kernel_rfl, by kernel_rfl, by kernel_rfl⟩
end
end Go.Proofs.YtldoekmblpghmaaGreat

namespace Go.Proofs.YtldoekmblpghmaaGreat
set_option linter.all false
section
set_option maxRecDepth 200000
set_option maxHeartbeats 8000000
attribute [-simp] List.getD_eq_getElem?_getD

theorem FnStep_ok (code : List UInt8) : Fn Tryz.prog fn_laws_FnStep [bsl code] [] (.bool true) [] := by
  obtain ⟨x, p, hx, hp, f1⟩ := DrawAssocStep_ok code
  have g1 := impl_AssocStep_ok x p hx.bd (by omega)
  have g2 := spec_AssocStep_ok x p hx.bd (by omega)
  have g3 := sameInts_self (stepS x p).2 (by have := stepS_len x p; omega)
  have g4 := sameAssoc_self (stepS x p).1 (stepS_bd p)
  have hm := srcN (x := x) (p := p)
  have hbd := stepS_bd (x := x) p
  have hln := stepS_len x p
  have k := stepS_keeps (x := x) (p := p)
  have k2 := stepS_ok (x := x) (p := p)
  have k3 : mineS x p = true → ∀ k ∈ (stepS x p).2, 1 ≤ k ∧ k ≤ 11 := fun h k hk => by rw [stepS_rules h] at hk; exact (rules_mem.1 hk).1
  have k4 : mineS x p = true → (stepS x p).2.Pairwise (· < ·) := fun h => by rw [stepS_rules h]; exact rules_sorted _ _ _
  have g5 := impl_AssocValid_ok (stepS x p).1 (stepS_bd p)
  generalize stepS x p = r at *
  obtain ⟨y, rl⟩ := r
  simp only at hm hbd hln k k2 k3 k4 g5
  simp only [assoc_v, packet_v, isl] at f1 g1 g2 g3 g4 g5
  refine Fn.of_go ln_laws_FnStep rfl ?_
  simp [ac_laws_FnStep, bsl]
  refine goTest_dec (fun h0 => ?_) (fun h0 => ?_)
  · simp
    exact Ends.mk [] [] (by simp)
  simp
  refine goCall_eq f1 (by simp [bsl]) ?_
  simp
  refine goCall_eq g1 (by simp) ?_
  simp
  refine goCall_eq g2 (by simp) ?_
  simp
  refine goCall_eq g3 (by simp) ?_
  simp
  refine goCall_eq g4 (by simp) ?_
  simp
  cases h1 : decide (y.src = 0)
  rotate_left
  · simp
    refine goCall_eq g3 (by simp) ?_
    simp
    refine goCall_eq g4 (by simp) ?_
    simp
    exact Ends.mk [] [] (by simp)
  have hm := hm h1
  simp
  have k := k hm
  have k2 := k2 hm
  have k3 := k3 hm
  have k4 := k4 hm
  refine go_loop (fun i : Nat => { env := [(3, .ptr 3 0), (5, .ptr 5 0), (6, isl rl), (9, .int .i64 (i : Nat))], loc := [], box := [(3, x.cells), (5, y.cells)], stat := [] }) (fun i => i ≤ rl.length) (fun i => rl.length - i) 0 (by omega) (Weak.of [] [(3, 3), (5, 5)] (by simp [isl, Assoc.cells, Side.cells, psl])) ?_
  intro i hi
  simp [isl, Assoc.cells, Side.cells, psl]
  refine goTest_dec (fun hlt => ?_) (fun hge => ?_)
  · have b1 := k3 _ (nth_mem hlt)
    have hlt2 : i - 1 < rl.length := by omega
    have b0 : 0 < i → nth rl (i - 1) < nth rl i := by
      intro h
      rw [nth_eq hlt, nth_eq hlt2]
      exact List.pairwise_iff_getElem.1 k4 _ _ hlt2 hlt (by omega)
    have e1 : decide (nth rl i < 1) = false := decide_eq_false (by omega)
    have e2 : decide (11 < nth rl i) = false := decide_eq_false (by omega)
    simp [hlt, iV, e1, e2]
    cases d3 : decide (0 < i)
    · simp
      exact ⟨by omega, Again.mk (i + 1) hlt (by omega) (Weak.of [] [(3, 3), (5, 5)] (by simp [isl, Assoc.cells, Side.cells, psl]))⟩
    · have hi0 := of_decide_eq_true d3
      have b0 := b0 hi0
      have e3 : decide (nth rl i ≤ nth rl (i - 1)) = false := decide_eq_false (by omega)
      simp [hlt, hlt2, iV, e3]
      exact ⟨by omega, ⟨by omega, by omega⟩, by omega, Again.mk (i + 1) hlt (by omega) (Weak.of [] [(3, 3), (5, 5)] (by simp [isl, Assoc.cells, Side.cells, psl]))⟩
  · simp
    refine goCall_eq g5 (by simp) ?_
    simp [k2, k.src, k.dst]
    exact Ends.mk [] [] (by simp)
end
end Go.Proofs.YtldoekmblpghmaaGreat

namespace Go.Proofs.YtldoekmblpghmaaGreat.fnStep
set_option linter.all false
open Go.ChangeShapes Go.WideShapes Go.ChangeAt Go.RowKit

theorem own : ownKnob Tryz.prog.godebug = none := by kernel_rfl
theorem laidOut : laidOutB Tryz.prog = true := by kernel_rfl

set_option maxRecDepth 100000 in
theorem lifted (os : Os) (started : os.Started) (H : Type) (enc : TypeId × Value → H) :
    ReturnsInHanded {} Tryz.checked os 3 .any (Rows.fnStepSpec.pre6 enc Tryz.prog Tryz.f3 Rows.fnStepRow.domain false) (Rows.fnStepSpec.post enc Tryz.prog Tryz.f3 false true false false) := by
  refine returnsInHanded_of_change_shaped (C := Tryz.checked) own started (by kernel_rfl) Tryz.func3
    (ChangeSpec.witness6 (enc := enc) (C := Tryz.checked) false ⟨#[], #[.slice none 0 0], []⟩ 8 (by kernel_rfl) (by kernel_rfl) (by kernel_rfl) (by kernel_rfl)) ?_
  intro W base args ds gs before hval0 hW _ _ hsh _
  have hval : ∀ (j : Nat) t v, Tryz.f3.params[j]? = some t → args[j]? = some v → Value.okWide Tryz.prog W .any base t v := hval0
  have hW' := hW
  obtain ⟨p, q, hA0, hV, rfl, hfz, hnd⟩ := hW
  have hA : DataW.TrodAll enc Tryz.prog W 0 (fun _ => true) true Tryz.f3.params.toList args.toList ds p := hA0
  rw [Tryz.params3] at hA hval
  obtain ⟨v0, d0, rfl, rfl, h0⟩ := trodAll_one hA
  obtain ⟨rfl, rfl⟩ := trodVars_none hV
  clear hA0 hval0
  simp only [List.append_nil] at hW'
  obtain ⟨l0, hl0⟩ := open_bytes Tryz.underlying22 Tryz.underlying5 (by kernel_rfl) (hval 0 22 v0 rfl rfl) h0
  refine ((FnStep_ok l0).calls_true rfl W [v0] (tabsW W hsh) (rel_one hl0)).mono fun e W' ⟨he, hb⟩ => ?_
  subst he
  have hlt : ∀ x ∈ p, x.block < W.heap.size := fun x hx => by simpa using hW'.lt x hx
  have hargs := Below.trod laidOut (by kernel_rfl) (of_decide_eq_true (by kernel_rfl)) h0 hb hlt
  exact ⟨_, rfl, ⟨_, _, _, [], _, [], hW', trodAll_mk1 (shut_bool Tryz.underlying4 _), trodAll_mk1 hargs, rfl, hb.frame _, fun h => by cases h⟩⟩

theorem closed : joinedFacts Tryz.prog 3 Tryz.f3 Rows.fnStepSpec Rows.fnStepRow = true := by
  have key : ∀ P : Program, P = Tryz.prog → P.mayEnter = true → P.liftsFinal = false → P.make = some .cut → joinedFacts P 3 Tryz.f3 Rows.fnStepSpec Rows.fnStepRow = true := by
    intro P hP h1 h2 h3
    unfold joinedFacts
    rw [h1, h2, h3]
    subst hP
    kernel_rfl
  exact key _ rfl enters finals makes

theorem proved : Rows.FnStepSaid :=
  OpenClaim.holds_of_wide 3 Tryz.f3 rfl rfl rfl rfl rfl rfl rfl ⟨rfl, rfl, rfl, rfl, rfl⟩ rfl rfl rfl rfl rfl (by kernel_rfl) Tryz.func3 closed
    (of_decide_eq_true (by kernel_rfl)) (by unfold Func.isWrapper; first | (rw [if_pos (by decide +kernel)]; kernel_rfl) | (rw [if_neg (by decide +kernel)]; exact ⟨rfl, rfl⟩))
    (fun os started H enc _ => lifted os started H enc)
end Go.Proofs.YtldoekmblpghmaaGreat.fnStep
