/-
  The law 'FnMonitorBroken' is proved: it returns true whatever the input, and the input reads as it did. No condition.
-/
import Derived.Test.YtpcfbgeabehmbaaGreatQ31
import Derived.Test.YtpcfbgeabehmbaaGreatQ32
import Derived.Test.YtpcfbgeabehmbaaGreatRows
namespace Go.Proofs.YtpcfbgeabehmbaaGreat
set_option linter.all false
section
set_option maxRecDepth 100000
def ac_laws_FnMonitorBroken : AF := ⟨[0, 2, 3, 4, 5, 6, 9, 29, 39], [.t 2],
  .seq (.region [⟨(.g 2), .mv (.c (.bool false)), none⟩])
  (.seq (.seq (.region [⟨(.l 7), .mv (.g 0), none⟩, ⟨(.l 8), .len (.l 7), none⟩, ⟨(.g 9), .bin .gtr (.l 8) (.c (.int .i64 1048576)), none⟩])
  (.cond (.g 9) (.seq (.region [⟨(.g 2), .mv (.c (.bool true)), none⟩])
   (.ret))
  (.skip)))
  (.seq (.region [⟨(.l 11), .mv (.g 0), none⟩, ⟨(.l 12), .call fn_spec_DrawMonitorStep [(.l 11)], none⟩, ⟨(.l 10), .mv (.l 12), none⟩, ⟨(.l 13), .extract (.l 10) 0, none⟩, ⟨(.l 14), .extract (.l 10) 1, none⟩, ⟨(.g 3), .alloc [(.int .i64 0), .nils, .nils], none⟩, ⟨.no, .store 3 (.g 3) (.l 13), none⟩, ⟨(.g 4), .mv (.l 14), none⟩])
  (.seq (.region [⟨(.l 15), .load true 3 (.g 3), none⟩, ⟨(.l 16), .mv (.g 4), none⟩, ⟨(.l 17), .call fn_impl_MonitorStep [(.l 15), (.l 16)], none⟩, ⟨(.g 5), .alloc [(.int .i64 0), .nils, .nils], none⟩, ⟨.no, .store 3 (.g 5) (.l 17), none⟩])
  (.seq (.region [⟨(.l 18), .load true 3 (.g 3), none⟩, ⟨(.l 19), .mv (.g 4), none⟩, ⟨(.l 20), .call fn_spec_MonitorStep [(.l 18), (.l 19)], none⟩, ⟨(.g 6), .alloc [(.int .i64 0), .nils, .nils], none⟩, ⟨.no, .store 3 (.g 6) (.l 20), none⟩])
  (.seq (.seq (.region [⟨(.l 21), .load true 3 (.g 5), none⟩, ⟨(.l 22), .load true 3 (.g 6), none⟩, ⟨(.l 23), .call fn_laws_sameMonitor [(.l 21), (.l 22)], none⟩, ⟨(.l 24), .un .not (.l 23), none⟩, ⟨(.l 25), .mv (.l 24), none⟩, ⟨(.l 26), .faddr 0 (.g 6), (some ((.l 25), false))⟩, ⟨(.l 27), .load false 1 (.l 26), (some ((.l 25), false))⟩, ⟨(.l 28), .bin .eql (.l 27) (.c (.int .i64 0)), (some ((.l 25), false))⟩, ⟨(.g 29), .pick (.l 25) (.c (.bool true)) (.l 28), none⟩])
  (.cond (.g 29) (.seq (.region [⟨(.l 30), .load true 3 (.g 5), none⟩, ⟨(.l 31), .load true 3 (.g 6), none⟩, ⟨(.l 32), .call fn_laws_sameMonitor [(.l 30), (.l 31)], none⟩, ⟨(.g 2), .mv (.l 32), none⟩])
   (.ret))
  (.skip)))
  (.seq (.seq (.region [⟨(.l 33), .faddr 2 (.g 5), none⟩, ⟨(.l 34), .load false 1 (.l 33), none⟩, ⟨(.l 35), .len (.l 34), none⟩, ⟨(.l 36), .faddr 2 (.g 3), none⟩, ⟨(.l 37), .load false 1 (.l 36), none⟩, ⟨(.l 38), .len (.l 37), none⟩, ⟨(.g 39), .bin .eql (.l 35) (.l 38), none⟩])
  (.cond (.g 39) (.seq (.region [⟨(.g 2), .mv (.c (.bool true)), none⟩])
   (.ret))
  (.skip)))
  (.seq (.region [⟨(.l 40), .faddr 1 (.g 5), none⟩, ⟨(.l 41), .load false 1 (.l 40), none⟩, ⟨(.l 42), .faddr 1 (.g 3), none⟩, ⟨(.l 43), .load false 1 (.l 42), none⟩, ⟨(.l 44), .call fn_laws_sameAssocs [(.l 41), (.l 43)], none⟩, ⟨(.g 2), .mv (.l 44), none⟩])
  (.ret))))))))⟩
theorem ln_laws_FnMonitorBroken : Linked Tryz.prog fn_laws_FnMonitorBroken ac_laws_FnMonitorBroken := ⟨Tryz.f9, _, Tryz.func9, rfl, by kernel_rfl, by kernel_rfl, by kernel_rfl, by kernel_rfl⟩
end
end Go.Proofs.YtpcfbgeabehmbaaGreat

namespace Go.Proofs.YtpcfbgeabehmbaaGreat
set_option linter.all false
section
set_option maxRecDepth 200000
set_option maxHeartbeats 8000000
attribute [-simp] List.getD_eq_getElem?_getD

theorem FnMonitorBroken_ok (code : List UInt8) : Fn Tryz.prog fn_laws_FnMonitorBroken [bsl code] [] (.bool true) [] := by
  obtain ⟨m, s, hm, hs, f1⟩ := DrawMonitorStep_ok code
  have hmf := hm.found
  have g1 := impl_MonitorStep_ok m s hm.bd (by omega) (by omega)
  have g2 := spec_MonitorStep_ok m s hm.bd (by omega) (by omega)
  have hyb := monS_bd hmf s
  have g3 := sameMonitor_self (monS m s) hyb
  have ht := monS_taken (m := m) (s := s)
  generalize monS m s = y at *
  simp only [mon_v] at f1 g1 g2 g3
  refine Fn.of_go ln_laws_FnMonitorBroken rfl ?_
  simp [ac_laws_FnMonitorBroken, bsl]
  refine goTest_dec (fun h0 => ?_) (fun h0 => ?_)
  · simp
    exact Ends.mk [] [] (by simp)
  simp
  refine goCall_eq f1 (by simp [bsl]) ?_
  simp
  refine goCall_eq g1 (by simp) ?_
  simp
  refine goCall_eq g2 (by simp) ?_
  simp
  refine goCall_eq g3 (by simp) ?_
  simp
  cases h1 : decide (y.records = 0)
  rotate_left
  · simp
    refine goCall_eq g3 (by simp) ?_
    simp
    exact Ends.mk [] [] (by simp)
  obtain ⟨hok, hy⟩ := ht h1
  have hok2 := mon_iff.2 hok
  simp
  refine goTest_dec (fun h2 => ?_) (fun h2 => ?_)
  · simp
    exact Ends.mk [] [] (by simp)
  have hne : (textL m.list s).2 ≠ [] := by
    intro e
    rw [hy] at h2
    simp [e] at h2
  have hl : y.list = m.list := by rw [hy]; exact text_told hok.len hok.list hne
  have a1 := sameAssocs_self m.list (by have := hm.bd.len; omega) hm.bd.each
  simp only [asl] at a1
  simp [hl]
  refine goCall_eq a1 (by simp) ?_
  simp
  exact Ends.mk [] [] (by simp)
end
end Go.Proofs.YtpcfbgeabehmbaaGreat

namespace Go.Proofs.YtpcfbgeabehmbaaGreat.fnMonitorBroken
set_option linter.all false
open Go.ChangeShapes Go.WideShapes Go.ChangeAt Go.RowKit

theorem own : ownKnob Tryz.prog.godebug = none := by kernel_rfl
theorem laidOut : laidOutB Tryz.prog = true := by kernel_rfl

set_option maxRecDepth 100000 in
theorem lifted (os : Os) (started : os.Started) (H : Type) (enc : TypeId × Value → H) :
    ReturnsInHanded {} Tryz.checked os 9 .any (Rows.fnMonitorBrokenSpec.pre6 enc Tryz.prog Tryz.f9 Rows.fnMonitorBrokenRow.domain false) (Rows.fnMonitorBrokenSpec.post enc Tryz.prog Tryz.f9 false true false false) := by
  refine returnsInHanded_of_change_shaped (C := Tryz.checked) own started (by kernel_rfl) Tryz.func9
    (ChangeSpec.witness6 (enc := enc) (C := Tryz.checked) false ⟨#[], #[.slice none 0 0], []⟩ 8 (by kernel_rfl) (by kernel_rfl) (by kernel_rfl) (by kernel_rfl)) ?_
  intro W base args ds gs before hval0 hW _ _ hsh _
  have hval : ∀ (j : Nat) t v, Tryz.f9.params[j]? = some t → args[j]? = some v → Value.okWide Tryz.prog W .any base t v := hval0
  have hW' := hW
  obtain ⟨p, q, hA0, hV, rfl, hfz, hnd⟩ := hW
  have hA : DataW.TrodAll enc Tryz.prog W 0 (fun _ => true) true Tryz.f9.params.toList args.toList ds p := hA0
  rw [Tryz.params9] at hA hval
  obtain ⟨v0, d0, rfl, rfl, h0⟩ := trodAll_one hA
  obtain ⟨rfl, rfl⟩ := trodVars_none hV
  clear hA0 hval0
  simp only [List.append_nil] at hW'
  obtain ⟨l0, hl0⟩ := open_bytes Tryz.underlying22 Tryz.underlying5 (by kernel_rfl) (hval 0 22 v0 rfl rfl) h0
  refine ((FnMonitorBroken_ok l0).calls_true rfl W [v0] (tabsW W hsh) (rel_one hl0)).mono fun e W' ⟨he, hb⟩ => ?_
  subst he
  have hlt : ∀ x ∈ p, x.block < W.heap.size := fun x hx => by simpa using hW'.lt x hx
  have hargs := Below.trod laidOut (by kernel_rfl) (of_decide_eq_true (by kernel_rfl)) h0 hb hlt
  exact ⟨_, rfl, ⟨_, _, _, [], _, [], hW', trodAll_mk1 (shut_bool Tryz.underlying4 _), trodAll_mk1 hargs, rfl, hb.frame _, fun h => by cases h⟩⟩

theorem closed : joinedFacts Tryz.prog 9 Tryz.f9 Rows.fnMonitorBrokenSpec Rows.fnMonitorBrokenRow = true := by
  have key : ∀ P : Program, P = Tryz.prog → P.mayEnter = true → P.liftsFinal = false → P.make = some .cut → joinedFacts P 9 Tryz.f9 Rows.fnMonitorBrokenSpec Rows.fnMonitorBrokenRow = true := by
    intro P hP h1 h2 h3
    unfold joinedFacts
    rw [h1, h2, h3]
    subst hP
    kernel_rfl
  exact key _ rfl enters finals makes

theorem proved : Rows.FnMonitorBrokenSaid :=
  OpenClaim.holds_of_wide 9 Tryz.f9 rfl rfl rfl rfl rfl rfl rfl ⟨rfl, rfl, rfl, rfl, rfl⟩ rfl rfl rfl rfl rfl (by kernel_rfl) Tryz.func9 closed
    (of_decide_eq_true (by kernel_rfl)) (by unfold Func.isWrapper; first | (rw [if_pos (by decide +kernel)]; kernel_rfl) | (rw [if_neg (by decide +kernel)]; exact ⟨rfl, rfl⟩))
    (fun os started H enc _ => lifted os started H enc)
end Go.Proofs.YtpcfbgeabehmbaaGreat.fnMonitorBroken
