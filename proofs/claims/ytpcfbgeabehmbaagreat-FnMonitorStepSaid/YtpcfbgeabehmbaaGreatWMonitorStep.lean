/-
  The law 'FnMonitorStep' is proved: it returns true whatever the input, and the input reads as it did. No condition.
-/
import Derived.Test.YtpcfbgeabehmbaaGreatQ31
import Derived.Test.YtpcfbgeabehmbaaGreatQ32
import Derived.Test.YtpcfbgeabehmbaaGreatRows
namespace Go.Proofs.YtpcfbgeabehmbaaGreat
set_option linter.all false
section
set_option maxRecDepth 100000
def ac_laws_FnMonitorStep : AF := ⟨[0, 2, 3, 4, 5, 6, 9, 24, 35], [.t 2],
  .seq (.region [⟨(.g 2), .mv (.c (.bool false)), none⟩])
  (.seq (.seq (.region [⟨(.l 7), .mv (.g 0), none⟩, ⟨(.l 8), .len (.l 7), none⟩, ⟨(.g 9), .bin .gtr (.l 8) (.c (.int .i64 1048576)), none⟩])
  (.cond (.g 9) (.seq (.region [⟨(.g 2), .mv (.c (.bool true)), none⟩])
   (.ret))
  (.skip)))
  (.seq (.region [⟨(.l 11), .mv (.g 0), none⟩, ⟨(.l 12), .call fn_spec_DrawMonitorStep [(.l 11)], none⟩, ⟨(.l 10), .mv (.l 12), none⟩, ⟨(.l 13), .extract (.l 10) 0, none⟩, ⟨(.l 14), .extract (.l 10) 1, none⟩, ⟨(.g 3), .alloc [(.int .i64 0), .nils, .nils], none⟩, ⟨.no, .store 3 (.g 3) (.l 13), none⟩, ⟨(.g 4), .mv (.l 14), none⟩])
  (.seq (.region [⟨(.l 15), .load true 3 (.g 3), none⟩, ⟨(.l 16), .mv (.g 4), none⟩, ⟨(.l 17), .call fn_impl_MonitorStep [(.l 15), (.l 16)], none⟩, ⟨(.g 5), .alloc [(.int .i64 0), .nils, .nils], none⟩, ⟨.no, .store 3 (.g 5) (.l 17), none⟩])
  (.seq (.region [⟨(.l 18), .load true 3 (.g 3), none⟩, ⟨(.l 19), .mv (.g 4), none⟩, ⟨(.l 20), .call fn_spec_MonitorStep [(.l 18), (.l 19)], none⟩, ⟨(.g 6), .alloc [(.int .i64 0), .nils, .nils], none⟩, ⟨.no, .store 3 (.g 6) (.l 20), none⟩])
  (.seq (.seq (.region [⟨(.l 21), .load true 3 (.g 5), none⟩, ⟨(.l 22), .load true 3 (.g 6), none⟩, ⟨(.l 23), .call fn_laws_sameMonitor [(.l 21), (.l 22)], none⟩, ⟨(.g 24), .un .not (.l 23), none⟩])
  (.cond (.g 24) (.seq (.region [⟨(.l 25), .load true 3 (.g 5), none⟩, ⟨(.l 26), .load true 3 (.g 6), none⟩, ⟨(.l 27), .call fn_laws_sameMonitor [(.l 25), (.l 26)], none⟩, ⟨(.g 2), .mv (.l 27), none⟩])
   (.ret))
  (.skip)))
  (.seq (.seq (.region [⟨(.l 28), .load true 3 (.g 3), none⟩, ⟨(.l 29), .call fn_impl_MonitorValid [(.l 28)], none⟩, ⟨(.l 30), .un .not (.l 29), none⟩, ⟨(.l 31), .mv (.l 30), none⟩, ⟨(.l 32), .faddr 0 (.g 3), (some ((.l 31), false))⟩, ⟨(.l 33), .load false 1 (.l 32), (some ((.l 31), false))⟩, ⟨(.l 34), .bin .geq (.l 33) (.c (.int .i64 60)), (some ((.l 31), false))⟩, ⟨(.g 35), .pick (.l 31) (.c (.bool true)) (.l 34), none⟩])
  (.cond (.g 35) (.seq (.region [⟨(.l 36), .load true 3 (.g 5), none⟩, ⟨(.l 37), .build [(.int .i64 0), .nils, .nils] [], none⟩, ⟨(.l 38), .call fn_laws_sameMonitor [(.l 36), (.l 37)], none⟩, ⟨(.g 2), .mv (.l 38), none⟩])
   (.ret))
  (.skip)))
  (.seq (.region [⟨(.l 39), .load true 3 (.g 5), none⟩, ⟨(.l 40), .call fn_impl_MonitorValid [(.l 39)], none⟩, ⟨(.l 41), .mv (.l 40), none⟩, ⟨(.l 42), .faddr 0 (.g 5), (some ((.l 41), true))⟩, ⟨(.l 43), .load false 1 (.l 42), (some ((.l 41), true))⟩, ⟨(.l 44), .faddr 0 (.g 3), (some ((.l 41), true))⟩, ⟨(.l 45), .load false 1 (.l 44), (some ((.l 41), true))⟩, ⟨(.l 46), .bin .add (.l 45) (.c (.int .i64 1)), (some ((.l 41), true))⟩, ⟨(.l 47), .bin .eql (.l 43) (.l 46), (some ((.l 41), true))⟩, ⟨(.l 48), .pick (.l 41) (.l 47) (.c (.bool false)), none⟩, ⟨(.g 2), .mv (.l 48), none⟩])
  (.ret))))))))⟩
theorem ln_laws_FnMonitorStep : Linked Tryz.prog fn_laws_FnMonitorStep ac_laws_FnMonitorStep := ⟨Tryz.f11, _, Tryz.func11, rfl, by kernel_rfl, by kernel_rfl, by kernel_rfl, by kernel_rfl⟩
end
end Go.Proofs.YtpcfbgeabehmbaaGreat

namespace Go.Proofs.YtpcfbgeabehmbaaGreat
set_option linter.all false
section
set_option maxRecDepth 200000
set_option maxHeartbeats 8000000
attribute [-simp] List.getD_eq_getElem?_getD

theorem FnMonitorStep_ok (code : List UInt8) : Fn Tryz.prog fn_laws_FnMonitorStep [bsl code] [] (.bool true) [] := by
  obtain ⟨m, s, hm, hs, f1⟩ := DrawMonitorStep_ok code
  have hmf := hm.found
  have g1 := impl_MonitorStep_ok m s hm.bd (by omega) (by omega)
  have g2 := spec_MonitorStep_ok m s hm.bd (by omega) (by omega)
  have hyb := monS_bd hmf s
  have g3 := sameMonitor_self (monS m s) hyb
  have ht := monS_taken (m := m) (s := s)
  have hc := monS_cases m s
  generalize monS m s = y at *
  simp only [mon_v] at f1 g1 g2 g3
  refine Fn.of_go ln_laws_FnMonitorStep rfl ?_
  simp [ac_laws_FnMonitorStep, bsl]
  refine goTest_dec (fun h0 => ?_) (fun h0 => ?_)
  · simp
    exact Ends.mk [] [] (by simp)
  simp
  refine goCall_eq f1 (by simp [bsl]) ?_
  simp
  refine goCall_eq g1 (by simp) ?_
  simp
  refine goCall_eq g2 (by simp) ?_
  simp
  refine goCall_eq g3 (by simp) ?_
  simp
  have v1 := impl_MonitorValid_ok m hm.bd
  have v2 := impl_MonitorValid_ok y hyb
  simp only [mon_v] at v1 v2
  have hz : y = zMonitor → Fn Tryz.prog fn_laws_sameMonitor [y.v, zMonitor.v] [] (.bool true) [] := by
    intro e; subst e; exact sameMonitor_self _ zMonitor_bd
  refine goCall_eq v1 (by simp) ?_
  cases q1 : m.ok
  · have e : y = zMonitor := by
      rcases hc with ⟨h1, _, _⟩ | ⟨_, h⟩
      · rw [mon_iff.2 h1] at q1; cases q1
      · exact h
    have z1 := hz e
    simp only [mon_v, zMonitor, List.map_nil] at z1
    simp
    refine goCall_gen [] [] [] [] none z1 (by simp) ?_
    simp
    exact Ends.mk [] [] (by simp)
  simp
  cases q2 : decide (60 ≤ m.records)
  rotate_left
  · have e : y = zMonitor := by
      rcases hc with ⟨_, h1, _⟩ | ⟨_, h⟩
      · have := of_decide_eq_true q2; omega
      · exact h
    have z1 := hz e
    simp only [mon_v, zMonitor, List.map_nil] at z1
    simp
    refine goCall_gen [] [] [] [] none z1 (by simp) ?_
    simp
    exact Ends.mk [] [] (by simp)
  have hk : y.ok = true ∧ y.records = m.records + 1 := by
    rcases hc with ⟨h1, h2, h3⟩ | ⟨h1, h⟩
    · rw [h3]
      exact ⟨mon_iff.2 (monStep_ok h1 h2 s), rfl⟩
    · have := of_decide_eq_false q2
      rcases h1 with h1 | h1
      · rw [q1] at h1; cases h1
      · omega
  have hmr := hm.recs
  simp
  refine goCall_eq v2 (by simp) ?_
  simp [hk.1, hk.2]
  refine ⟨by omega, ?_⟩
  exact Ends.mk [] [] (by simp)
end
end Go.Proofs.YtpcfbgeabehmbaaGreat

namespace Go.Proofs.YtpcfbgeabehmbaaGreat.fnMonitorStep
set_option linter.all false
open Go.ChangeShapes Go.WideShapes Go.ChangeAt Go.RowKit

theorem own : ownKnob Tryz.prog.godebug = none := by kernel_rfl
theorem laidOut : laidOutB Tryz.prog = true := by kernel_rfl

set_option maxRecDepth 100000 in
theorem lifted (os : Os) (started : os.Started) (H : Type) (enc : TypeId × Value → H) :
    ReturnsInHanded {} Tryz.checked os 11 .any (Rows.fnMonitorStepSpec.pre6 enc Tryz.prog Tryz.f11 Rows.fnMonitorStepRow.domain false) (Rows.fnMonitorStepSpec.post enc Tryz.prog Tryz.f11 false true false false) := by
  refine returnsInHanded_of_change_shaped (C := Tryz.checked) own started (by kernel_rfl) Tryz.func11
    (ChangeSpec.witness6 (enc := enc) (C := Tryz.checked) false ⟨#[], #[.slice none 0 0], []⟩ 8 (by kernel_rfl) (by kernel_rfl) (by kernel_rfl) (by kernel_rfl)) ?_
  intro W base args ds gs before hval0 hW _ _ hsh _
  have hval : ∀ (j : Nat) t v, Tryz.f11.params[j]? = some t → args[j]? = some v → Value.okWide Tryz.prog W .any base t v := hval0
  have hW' := hW
  obtain ⟨p, q, hA0, hV, rfl, hfz, hnd⟩ := hW
  have hA : DataW.TrodAll enc Tryz.prog W 0 (fun _ => true) true Tryz.f11.params.toList args.toList ds p := hA0
  rw [Tryz.params11] at hA hval
  obtain ⟨v0, d0, rfl, rfl, h0⟩ := trodAll_one hA
  obtain ⟨rfl, rfl⟩ := trodVars_none hV
  clear hA0 hval0
  simp only [List.append_nil] at hW'
  obtain ⟨l0, hl0⟩ := open_bytes Tryz.underlying22 Tryz.underlying5 (by kernel_rfl) (hval 0 22 v0 rfl rfl) h0
  refine ((FnMonitorStep_ok l0).calls_true rfl W [v0] (tabsW W hsh) (rel_one hl0)).mono fun e W' ⟨he, hb⟩ => ?_
  subst he
  have hlt : ∀ x ∈ p, x.block < W.heap.size := fun x hx => by simpa using hW'.lt x hx
  have hargs := Below.trod laidOut (by kernel_rfl) (of_decide_eq_true (by kernel_rfl)) h0 hb hlt
  exact ⟨_, rfl, ⟨_, _, _, [], _, [], hW', trodAll_mk1 (shut_bool Tryz.underlying4 _), trodAll_mk1 hargs, rfl, hb.frame _, fun h => by cases h⟩⟩

theorem closed : joinedFacts Tryz.prog 11 Tryz.f11 Rows.fnMonitorStepSpec Rows.fnMonitorStepRow = true := by
  have key : ∀ P : Program, P = Tryz.prog → P.mayEnter = true → P.liftsFinal = false → P.make = some .cut → joinedFacts P 11 Tryz.f11 Rows.fnMonitorStepSpec Rows.fnMonitorStepRow = true := by
    intro P hP h1 h2 h3
    unfold joinedFacts
    rw [h1, h2, h3]
    subst hP
    kernel_rfl
  exact key _ rfl enters finals makes

theorem proved : Rows.FnMonitorStepSaid :=
  OpenClaim.holds_of_wide 11 Tryz.f11 rfl rfl rfl rfl rfl rfl rfl ⟨rfl, rfl, rfl, rfl, rfl⟩ rfl rfl rfl rfl rfl (by kernel_rfl) Tryz.func11 closed
    (of_decide_eq_true (by kernel_rfl)) (by unfold Func.isWrapper; first | (rw [if_pos (by decide +kernel)]; kernel_rfl) | (rw [if_neg (by decide +kernel)]; exact ⟨rfl, rfl⟩))
    (fun os started H enc _ => lifted os started H enc)
end Go.Proofs.YtpcfbgeabehmbaaGreat.fnMonitorStep
