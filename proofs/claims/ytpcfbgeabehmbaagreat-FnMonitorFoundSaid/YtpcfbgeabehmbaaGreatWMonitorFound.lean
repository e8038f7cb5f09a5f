/-
  The law 'FnMonitorFound' is proved: it returns true whatever the input, and the input reads as it did. No condition.
-/
import Derived.Test.YtpcfbgeabehmbaaGreatQ31
import Derived.Test.YtpcfbgeabehmbaaGreatQ32
import Derived.Test.YtpcfbgeabehmbaaGreatRows
namespace Go.Proofs.YtpcfbgeabehmbaaGreat
set_option linter.all false
section
set_option maxRecDepth 100000
def ac_laws_FnMonitorFound : AF := ⟨[0, 2, 3, 4, 5, 6, 7, 8, 11, 31, 52, 58, 69], [.t 2],
  .seq (.region [⟨(.g 2), .mv (.c (.bool false)), none⟩])
  (.seq (.seq (.region [⟨(.l 9), .mv (.g 0), none⟩, ⟨(.l 10), .len (.l 9), none⟩, ⟨(.g 11), .bin .gtr (.l 10) (.c (.int .i64 1048576)), none⟩])
  (.cond (.g 11) (.seq (.region [⟨(.g 2), .mv (.c (.bool true)), none⟩])
   (.ret))
  (.skip)))
  (.seq (.region [⟨(.l 13), .mv (.g 0), none⟩, ⟨(.l 14), .call fn_spec_DrawMonitorStep [(.l 13)], none⟩, ⟨(.l 12), .mv (.l 14), none⟩, ⟨(.l 15), .extract (.l 12) 0, none⟩, ⟨(.l 16), .extract (.l 12) 1, none⟩, ⟨(.g 3), .alloc [(.int .i64 0), .nils, .nils], none⟩, ⟨.no, .store 3 (.g 3) (.l 15), none⟩, ⟨(.g 4), .mv (.l 16), none⟩])
  (.seq (.region [⟨(.l 17), .load true 3 (.g 3), none⟩, ⟨(.l 18), .mv (.g 4), none⟩, ⟨(.l 19), .call fn_impl_MonitorStep [(.l 17), (.l 18)], none⟩, ⟨(.g 5), .alloc [(.int .i64 0), .nils, .nils], none⟩, ⟨.no, .store 3 (.g 5) (.l 19), none⟩])
  (.seq (.region [⟨(.l 20), .load true 3 (.g 3), none⟩, ⟨(.l 21), .mv (.g 4), none⟩, ⟨(.l 22), .call fn_spec_MonitorStep [(.l 20), (.l 21)], none⟩, ⟨(.g 6), .alloc [(.int .i64 0), .nils, .nils], none⟩, ⟨.no, .store 3 (.g 6) (.l 22), none⟩])
  (.seq (.seq (.region [⟨(.l 23), .load true 3 (.g 5), none⟩, ⟨(.l 24), .load true 3 (.g 6), none⟩, ⟨(.l 25), .call fn_laws_sameMonitor [(.l 23), (.l 24)], none⟩, ⟨(.l 26), .un .not (.l 25), none⟩, ⟨(.l 27), .mv (.l 26), none⟩, ⟨(.l 28), .faddr 0 (.g 6), (some ((.l 27), false))⟩, ⟨(.l 29), .load false 1 (.l 28), (some ((.l 27), false))⟩, ⟨(.l 30), .bin .eql (.l 29) (.c (.int .i64 0)), (some ((.l 27), false))⟩, ⟨(.g 31), .pick (.l 27) (.c (.bool true)) (.l 30), none⟩])
  (.cond (.g 31) (.seq (.region [⟨(.l 32), .load true 3 (.g 5), none⟩, ⟨(.l 33), .load true 3 (.g 6), none⟩, ⟨(.l 34), .call fn_laws_sameMonitor [(.l 32), (.l 33)], none⟩, ⟨(.g 2), .mv (.l 34), none⟩])
   (.ret))
  (.skip)))
  (.seq (.region [⟨(.l 35), .faddr 2 (.g 3), none⟩, ⟨(.l 36), .load false 1 (.l 35), none⟩, ⟨(.l 37), .len (.l 36), none⟩, ⟨(.g 7), .mv (.l 37), none⟩])
  (.seq (.seq (.drawn [⟨(.l 38), .faddr 2 (.g 5), none⟩, ⟨(.l 39), .load false 1 (.l 38), none⟩, ⟨(.l 40), .len (.l 39), none⟩, ⟨(.l 41), .mv (.g 7), none⟩, ⟨(.l 42), .bin .lss (.l 40) (.l 41), none⟩, ⟨(.l 43), .mv (.l 42), none⟩, ⟨(.l 44), .faddr 2 (.g 5), (some ((.l 43), false))⟩, ⟨(.l 45), .load false 1 (.l 44), (some ((.l 43), false))⟩, ⟨(.l 46), .mv (.g 7), (some ((.l 43), false))⟩, ⟨(.l 47), .cutSl 2 (.l 45) none (some (.l 46)), (some ((.l 43), false))⟩, ⟨(.l 48), .faddr 2 (.g 3), (some ((.l 43), false))⟩, ⟨(.l 49), .load false 1 (.l 48), (some ((.l 43), false))⟩] [[], [], [], [], [], [], [], [], [], [], [], [9, 7]] [⟨(.l 50), .call fn_laws_sameFound [(.l 47), (.l 49)], (some ((.l 43), false))⟩, ⟨(.l 51), .un .not (.l 50), (some ((.l 43), false))⟩, ⟨(.g 52), .pick (.l 43) (.c (.bool true)) (.l 51), none⟩])
  (.cond (.g 52) (.seq (.region [⟨(.g 2), .mv (.c (.bool false)), none⟩])
   (.ret))
  (.skip)))
  (.seq (.seq (.region [⟨(.l 53), .mv (.g 7), none⟩, ⟨(.g 8), .mv (.l 53), none⟩])
  (.block 0 (.loop (.seq (.seq (.region [⟨(.l 54), .mv (.g 8), none⟩, ⟨(.l 55), .faddr 2 (.g 5), none⟩, ⟨(.l 56), .load false 1 (.l 55), none⟩, ⟨(.l 57), .len (.l 56), none⟩, ⟨(.g 58), .bin .lss (.l 54) (.l 57), none⟩])
    (.cond (.g 58) (.skip)
    (.exit 0)))
    (.seq (.block 1 (.seq (.drawn [⟨(.l 61), .faddr 2 (.g 5), none⟩, ⟨(.l 62), .load false 1 (.l 61), none⟩, ⟨(.l 63), .mv (.g 8), none⟩, ⟨(.l 64), .elS 2 (.l 62) (.l 63), none⟩, ⟨(.l 65), .faddr 0 (.l 64), none⟩, ⟨(.l 66), .load false 1 (.l 65), none⟩, ⟨(.l 67), .faddr 0 (.g 3), none⟩, ⟨(.l 68), .load false 1 (.l 67), none⟩] [[], [], [], [], [], [], [], [5, 3, 1]] [⟨(.g 69), .bin .neq (.l 66) (.l 68), none⟩])
     (.cond (.g 69) (.seq (.region [⟨(.g 2), .mv (.c (.bool false)), none⟩])
      (.ret))
     (.skip))))
    (.region [⟨(.l 59), .mv (.g 8), none⟩, ⟨(.l 60), .bin .add (.l 59) (.c (.int .i64 1)), none⟩, ⟨(.g 8), .mv (.l 60), none⟩]))))))
  (.seq (.region [⟨(.g 2), .mv (.c (.bool true)), none⟩])
  (.ret))))))))))⟩
theorem ln_laws_FnMonitorFound : Linked Tryz.prog fn_laws_FnMonitorFound ac_laws_FnMonitorFound := ⟨Tryz.f10, _, Tryz.func10, rfl, by kernel_rfl, by kernel_rfl, by kernel_rfl, by kernel_rfl⟩
end
end Go.Proofs.YtpcfbgeabehmbaaGreat

namespace Go.Proofs.YtpcfbgeabehmbaaGreat
set_option linter.all false
section
set_option maxRecDepth 200000
set_option maxHeartbeats 8000000
attribute [-simp] List.getD_eq_getElem?_getD

theorem FnMonitorFound_ok (code : List UInt8) : Fn Tryz.prog fn_laws_FnMonitorFound [bsl code] [] (.bool true) [] := by
  obtain ⟨m, s, hm, hs, f1⟩ := DrawMonitorStep_ok code
  have hmf := hm.found
  have g1 := impl_MonitorStep_ok m s hm.bd (by omega) (by omega)
  have g2 := spec_MonitorStep_ok m s hm.bd (by omega) (by omega)
  have hyb := monS_bd hmf s
  have g3 := sameMonitor_self (monS m s) hyb
  have ht := monS_taken (m := m) (s := s)
  generalize monS m s = y at *
  simp only [mon_v] at f1 g1 g2 g3
  refine Fn.of_go ln_laws_FnMonitorFound rfl ?_
  simp [ac_laws_FnMonitorFound, bsl]
  refine goTest_dec (fun h0 => ?_) (fun h0 => ?_)
  · simp
    exact Ends.mk [] [] (by simp)
  simp
  refine goCall_eq f1 (by simp [bsl]) ?_
  simp
  refine goCall_eq g1 (by simp) ?_
  simp
  refine goCall_eq g2 (by simp) ?_
  simp
  refine goCall_eq g3 (by simp) ?_
  simp
  cases h1 : decide (y.records = 0)
  rotate_left
  · simp
    refine goCall_eq g3 (by simp) ?_
    simp
    exact Ends.mk [] [] (by simp)
  obtain ⟨hok, hy⟩ := ht h1
  have hok2 := mon_iff.2 hok
  simp
  have hf : y.found = m.found ++ (textL m.list s).2.map fun r => (m.records, r) := by rw [hy]
  have htl := textL_told m.list s
  generalize (textL m.list s).2 = T at *
  have hfl : y.found.length = m.found.length + T.length := by rw [hf]; simp
  have hrec : ∀ i, m.found.length ≤ i → i < y.found.length → (nth y.found i).1 = m.records := by
    intro i h1 h2
    rw [nth_eq h2]
    simp only [hf]
    rw [List.getElem_append_right h1]
    simp
  have p1 : List.take m.found.length (y.found.map fV) = m.found.map fV := by rw [← List.map_take, hf, List.take_left]
  have f2 := sameFound_self m.found (by omega)
  simp only [fsl] at f2
  have e1 : decide (y.found.length < m.found.length) = false := decide_eq_false (by omega)
  simp [e1]
  refine ⟨by omega, ?_⟩
  rw [p1]
  refine goCall_eq f2 (by simp) ?_
  simp
  refine go_loop (fun i : Nat => { env := [(3, .ptr 3 0), (5, .ptr 5 0), (8, .int .i64 (i : Nat))], loc := [], box := [(3, m.cells), (5, y.cells)], stat := [] }) (fun i => m.found.length ≤ i ∧ i ≤ y.found.length) (fun i => y.found.length - i) m.found.length ⟨by omega, by omega⟩ (Weak.of [] [(3, 3), (5, 5)] (by simp [Monitor.cells, fsl])) ?_
  rintro i ⟨hi1, hi2⟩
  simp [Monitor.cells, fsl]
  refine goTest_dec (fun hlt => ?_) (fun hge => ?_)
  · have h2 := hrec i hi1 hlt
    simp [hlt, fV, h2]
    exact ⟨by omega, Again.mk (i + 1) ⟨by omega, hlt⟩ (by omega) (Weak.of [] [(3, 3), (5, 5)] (by simp [Monitor.cells, fsl]))⟩
  · simp
    exact Ends.mk [] [] (by simp)
end
end Go.Proofs.YtpcfbgeabehmbaaGreat

namespace Go.Proofs.YtpcfbgeabehmbaaGreat.fnMonitorFound
set_option linter.all false
open Go.ChangeShapes Go.WideShapes Go.ChangeAt Go.RowKit

theorem own : ownKnob Tryz.prog.godebug = none := by kernel_rfl
theorem laidOut : laidOutB Tryz.prog = true := by kernel_rfl

set_option maxRecDepth 100000 in
theorem lifted (os : Os) (started : os.Started) (H : Type) (enc : TypeId × Value → H) :
    ReturnsInHanded {} Tryz.checked os 10 .any (Rows.fnMonitorFoundSpec.pre6 enc Tryz.prog Tryz.f10 Rows.fnMonitorFoundRow.domain false) (Rows.fnMonitorFoundSpec.post enc Tryz.prog Tryz.f10 false true false false) := by
  refine returnsInHanded_of_change_shaped (C := Tryz.checked) own started (by kernel_rfl) Tryz.func10
    (ChangeSpec.witness6 (enc := enc) (C := Tryz.checked) false ⟨#[], #[.slice none 0 0], []⟩ 8 (by kernel_rfl) (by kernel_rfl) (by kernel_rfl) (by kernel_rfl)) ?_
  intro W base args ds gs before hval0 hW _ _ hsh _
  have hval : ∀ (j : Nat) t v, Tryz.f10.params[j]? = some t → args[j]? = some v → Value.okWide Tryz.prog W .any base t v := hval0
  have hW' := hW
  obtain ⟨p, q, hA0, hV, rfl, hfz, hnd⟩ := hW
  have hA : DataW.TrodAll enc Tryz.prog W 0 (fun _ => true) true Tryz.f10.params.toList args.toList ds p := hA0
  rw [Tryz.params10] at hA hval
  obtain ⟨v0, d0, rfl, rfl, h0⟩ := trodAll_one hA
  obtain ⟨rfl, rfl⟩ := trodVars_none hV
  clear hA0 hval0
  simp only [List.append_nil] at hW'
  obtain ⟨l0, hl0⟩ := open_bytes Tryz.underlying22 Tryz.underlying5 (by kernel_rfl) (hval 0 22 v0 rfl rfl) h0
  refine ((FnMonitorFound_ok l0).calls_true rfl W [v0] (tabsW W hsh) (rel_one hl0)).mono fun e W' ⟨he, hb⟩ => ?_
  subst he
  have hlt : ∀ x ∈ p, x.block < W.heap.size := fun x hx => by simpa using hW'.lt x hx
  have hargs := Below.trod laidOut (by kernel_rfl) (of_decide_eq_true (by kernel_rfl)) h0 hb hlt
  exact ⟨_, rfl, ⟨_, _, _, [], _, [], hW', trodAll_mk1 (shut_bool Tryz.underlying4 _), trodAll_mk1 hargs, rfl, hb.frame _, fun h => by cases h⟩⟩

theorem closed : joinedFacts Tryz.prog 10 Tryz.f10 Rows.fnMonitorFoundSpec Rows.fnMonitorFoundRow = true := by
  have key : ∀ P : Program, P = Tryz.prog → P.mayEnter = true → P.liftsFinal = false → P.make = some .cut → joinedFacts P 10 Tryz.f10 Rows.fnMonitorFoundSpec Rows.fnMonitorFoundRow = true := by
    intro P hP h1 h2 h3
    unfold joinedFacts
    rw [h1, h2, h3]
    subst hP
    kernel_rfl
  exact key _ rfl enters finals makes

theorem proved : Rows.FnMonitorFoundSaid :=
  OpenClaim.holds_of_wide 10 Tryz.f10 rfl rfl rfl rfl rfl rfl rfl ⟨rfl, rfl, rfl, rfl, rfl⟩ rfl rfl rfl rfl rfl (by kernel_rfl) Tryz.func10 closed
    (of_decide_eq_true (by kernel_rfl)) (by unfold Func.isWrapper; first | (rw [if_pos (by decide +kernel)]; kernel_rfl) | (rw [if_neg (by decide +kernel)]; exact ⟨rfl, rfl⟩))
    (fun os started H enc _ => lifted os started H enc)
end Go.Proofs.YtpcfbgeabehmbaaGreat.fnMonitorFound
