/-
  The law 'FnMonitorOthers' is proved: it returns true whatever the input, and the input reads as it did. No condition.
-/
import Derived.Test.YtpcfbgeabehmbaaGreatQ31
import Derived.Test.YtpcfbgeabehmbaaGreatQ32
import Derived.Test.YtpcfbgeabehmbaaGreatRows
namespace Go.Proofs.YtpcfbgeabehmbaaGreat
set_option linter.all false
section
set_option maxRecDepth 100000
def ac_laws_FnMonitorOthers : AF := ⟨[0, 2, 3, 4, 5, 6, 7, 9, 10, 11, 13, 16, 36, 49, 107], [.t 2],
  .seq (.region [⟨(.g 2), .mv (.c (.bool false)), none⟩])
  (.seq (.seq (.region [⟨(.l 14), .mv (.g 0), none⟩, ⟨(.l 15), .len (.l 14), none⟩, ⟨(.g 16), .bin .gtr (.l 15) (.c (.int .i64 1048576)), none⟩])
  (.cond (.g 16) (.seq (.region [⟨(.g 2), .mv (.c (.bool true)), none⟩])
   (.ret))
  (.skip)))
  (.seq (.region [⟨(.l 18), .mv (.g 0), none⟩, ⟨(.l 19), .call fn_spec_DrawMonitorStep [(.l 18)], none⟩, ⟨(.l 17), .mv (.l 19), none⟩, ⟨(.l 20), .extract (.l 17) 0, none⟩, ⟨(.l 21), .extract (.l 17) 1, none⟩, ⟨(.g 3), .alloc [(.int .i64 0), .nils, .nils], none⟩, ⟨.no, .store 3 (.g 3) (.l 20), none⟩, ⟨(.g 4), .mv (.l 21), none⟩])
  (.seq (.region [⟨(.l 22), .load true 3 (.g 3), none⟩, ⟨(.l 23), .mv (.g 4), none⟩, ⟨(.l 24), .call fn_impl_MonitorStep [(.l 22), (.l 23)], none⟩, ⟨(.g 5), .alloc [(.int .i64 0), .nils, .nils], none⟩, ⟨.no, .store 3 (.g 5) (.l 24), none⟩])
  (.seq (.region [⟨(.l 25), .load true 3 (.g 3), none⟩, ⟨(.l 26), .mv (.g 4), none⟩, ⟨(.l 27), .call fn_spec_MonitorStep [(.l 25), (.l 26)], none⟩, ⟨(.g 6), .alloc [(.int .i64 0), .nils, .nils], none⟩, ⟨.no, .store 3 (.g 6) (.l 27), none⟩])
  (.seq (.seq (.region [⟨(.l 28), .load true 3 (.g 5), none⟩, ⟨(.l 29), .load true 3 (.g 6), none⟩, ⟨(.l 30), .call fn_laws_sameMonitor [(.l 28), (.l 29)], none⟩, ⟨(.l 31), .un .not (.l 30), none⟩, ⟨(.l 32), .mv (.l 31), none⟩, ⟨(.l 33), .faddr 0 (.g 6), (some ((.l 32), false))⟩, ⟨(.l 34), .load false 1 (.l 33), (some ((.l 32), false))⟩, ⟨(.l 35), .bin .eql (.l 34) (.c (.int .i64 0)), (some ((.l 32), false))⟩, ⟨(.g 36), .pick (.l 32) (.c (.bool true)) (.l 35), none⟩])
  (.cond (.g 36) (.seq (.region [⟨(.l 37), .load true 3 (.g 5), none⟩, ⟨(.l 38), .load true 3 (.g 6), none⟩, ⟨(.l 39), .call fn_laws_sameMonitor [(.l 37), (.l 38)], none⟩, ⟨(.g 2), .mv (.l 39), none⟩])
   (.ret))
  (.skip)))
  (.seq (.region [⟨(.l 41), .mv (.g 4), none⟩, ⟨(.l 42), .call fn_impl_PacketGet [(.l 41)], none⟩, ⟨(.l 40), .mv (.l 42), none⟩, ⟨(.l 43), .extract (.l 40) 0, none⟩, ⟨(.l 44), .extract (.l 40) 1, none⟩, ⟨(.g 7), .alloc [(.int .i64 0), (.int .i64 0), (.int .i64 0), .nils], none⟩, ⟨.no, .store 4 (.g 7) (.l 43), none⟩, ⟨(.l 8), .mv (.l 44), none⟩])
  (.seq (.seq (.region [⟨(.g 9), .mv (.c (.int .i64 0)), none⟩])
  (.block 0 (.loop (.seq (.seq (.region [⟨(.l 45), .mv (.g 9), none⟩, ⟨(.l 46), .faddr 1 (.g 3), none⟩, ⟨(.l 47), .load false 1 (.l 46), none⟩, ⟨(.l 48), .len (.l 47), none⟩, ⟨(.g 49), .bin .lss (.l 45) (.l 48), none⟩])
    (.cond (.g 49) (.skip)
    (.exit 0)))
    (.seq (.block 1 (.seq (.region [⟨(.l 52), .faddr 1 (.g 3), none⟩, ⟨(.l 53), .load false 1 (.l 52), none⟩, ⟨(.l 54), .mv (.g 9), none⟩, ⟨(.l 55), .elS 14 (.l 53) (.l 54), none⟩, ⟨(.l 56), .load true 14 (.l 55), none⟩, ⟨(.g 10), .alloc [(.int .i64 0), (.int .i64 0), (.int .i64 0), (.bool false), (.int .i64 0), (.int .i64 0), (.int .i64 0), .nils, (.int .i64 0), (.int .i64 0), (.int .i64 0), (.int .i64 0), .nils, (.int .i64 0)], none⟩, ⟨.no, .store 14 (.g 10) (.l 56), none⟩])
     (.seq (.region [⟨(.l 58), .load true 3 (.g 5), none⟩, ⟨(.l 59), .faddr 0 (.g 10), none⟩, ⟨(.l 60), .load false 1 (.l 59), none⟩, ⟨(.l 61), .faddr 1 (.g 10), none⟩, ⟨(.l 62), .load false 1 (.l 61), none⟩, ⟨(.l 63), .call fn_impl_MonitorFind [(.l 58), (.l 60), (.l 62)], none⟩, ⟨(.l 57), .mv (.l 63), none⟩, ⟨(.l 64), .extract (.l 57) 0, none⟩, ⟨(.l 65), .extract (.l 57) 1, none⟩, ⟨(.g 11), .mv (.l 64), none⟩, ⟨(.l 12), .mv (.l 65), none⟩])
     (.seq (.region [⟨(.l 66), .faddr 0 (.g 10), none⟩, ⟨(.l 67), .load false 1 (.l 66), none⟩, ⟨(.l 68), .faddr 0 (.g 7), none⟩, ⟨(.l 69), .load false 1 (.l 68), none⟩, ⟨(.l 70), .bin .eql (.l 67) (.l 69), none⟩, ⟨(.l 71), .mv (.l 70), none⟩, ⟨(.l 72), .faddr 1 (.g 10), (some ((.l 71), true))⟩, ⟨(.l 73), .load false 1 (.l 72), (some ((.l 71), true))⟩, ⟨(.l 74), .faddr 1 (.g 7), (some ((.l 71), true))⟩, ⟨(.l 75), .load false 1 (.l 74), (some ((.l 71), true))⟩, ⟨(.l 76), .bin .eql (.l 73) (.l 75), (some ((.l 71), true))⟩, ⟨(.l 77), .pick (.l 71) (.l 76) (.c (.bool false)), none⟩, ⟨(.l 78), .mv (.l 77), none⟩, ⟨(.l 79), .faddr 0 (.g 10), (some ((.l 78), false))⟩, ⟨(.l 80), .load false 1 (.l 79), (some ((.l 78), false))⟩, ⟨(.l 81), .faddr 1 (.g 7), (some ((.l 78), false))⟩, ⟨(.l 82), .load false 1 (.l 81), (some ((.l 78), false))⟩, ⟨(.l 83), .bin .eql (.l 80) (.l 82), (some ((.l 78), false))⟩, ⟨(.l 84), .mv (.l 83), (some ((.l 78), false))⟩, ⟨(.l 85), .faddr 1 (.g 10), (some ((.l 84), true))⟩, ⟨(.l 86), .load false 1 (.l 85), (some ((.l 84), true))⟩, ⟨(.l 87), .faddr 0 (.g 7), (some ((.l 84), true))⟩, ⟨(.l 88), .load false 1 (.l 87), (some ((.l 84), true))⟩, ⟨(.l 89), .bin .eql (.l 86) (.l 88), (some ((.l 84), true))⟩, ⟨(.l 90), .pick (.l 84) (.l 89) (.c (.bool false)), (some ((.l 78), false))⟩, ⟨(.l 91), .pick (.l 78) (.c (.bool true)) (.l 90), none⟩, ⟨(.g 13), .mv (.l 91), none⟩])
     (.seq (.drawn [⟨(.l 92), .mv (.g 13), none⟩, ⟨(.l 93), .un .not (.l 92), none⟩, ⟨(.l 94), .mv (.l 93), none⟩, ⟨(.l 95), .mv (.g 11), (some ((.l 94), true))⟩, ⟨(.l 96), .bin .lss (.l 95) (.c (.int .i64 0)), (some ((.l 94), true))⟩, ⟨(.l 97), .mv (.l 96), (some ((.l 94), true))⟩, ⟨(.l 98), .faddr 1 (.g 5), (some ((.l 97), false))⟩, ⟨(.l 99), .load false 1 (.l 98), (some ((.l 97), false))⟩, ⟨(.l 100), .mv (.g 11), (some ((.l 97), false))⟩, ⟨(.l 101), .elS 14 (.l 99) (.l 100), (some ((.l 97), false))⟩, ⟨(.l 102), .load true 14 (.l 101), (some ((.l 97), false))⟩, ⟨(.l 103), .load true 14 (.g 10), (some ((.l 97), false))⟩] [[], [], [], [], [], [], [], [], [], [], [], [10, 9, 7]] [⟨(.l 104), .call fn_laws_sameAssoc [(.l 102), (.l 103)], (some ((.l 97), false))⟩, ⟨(.l 105), .un .not (.l 104), (some ((.l 97), false))⟩, ⟨(.l 106), .pick (.l 97) (.c (.bool true)) (.l 105), (some ((.l 94), true))⟩, ⟨(.g 107), .pick (.l 94) (.l 106) (.c (.bool false)), none⟩])
     (.cond (.g 107) (.seq (.region [⟨(.g 2), .mv (.c (.bool false)), none⟩])
      (.ret))
     (.skip)))))))
    (.region [⟨(.l 50), .mv (.g 9), none⟩, ⟨(.l 51), .bin .add (.l 50) (.c (.int .i64 1)), none⟩, ⟨(.g 9), .mv (.l 51), none⟩]))))))
  (.seq (.region [⟨(.g 2), .mv (.c (.bool true)), none⟩])
  (.ret)))))))))⟩
theorem ln_laws_FnMonitorOthers : Linked Tryz.prog fn_laws_FnMonitorOthers ac_laws_FnMonitorOthers := ⟨Tryz.f13, _, Tryz.func13, rfl, by kernel_rfl, by kernel_rfl, by kernel_rfl, by kernel_rfl⟩
end
end Go.Proofs.YtpcfbgeabehmbaaGreat

namespace Go.Proofs.YtpcfbgeabehmbaaGreat
set_option linter.all false
section
set_option maxRecDepth 200000
set_option maxHeartbeats 8000000
attribute [-simp] List.getD_eq_getElem?_getD

theorem FnMonitorOthers_ok (code : List UInt8) : Fn Tryz.prog fn_laws_FnMonitorOthers [bsl code] [] (.bool true) [] := by
  obtain ⟨m, s, hm, hs, f1⟩ := DrawMonitorStep_ok code
  have hmf := hm.found
  have g1 := impl_MonitorStep_ok m s hm.bd (by omega) (by omega)
  have g2 := spec_MonitorStep_ok m s hm.bd (by omega) (by omega)
  have hyb := monS_bd hmf s
  have g3 := sameMonitor_self (monS m s) hyb
  have ht := monS_taken (m := m) (s := s)
  have gp := impl_PacketGet_ok s (by omega)
  have hb := fun (a : m.list.length ≤ 3) (b : ListOk m.list) (j : Nat) => text_others a b (t := s) (j := j)
  have hmo := fun a b => monStep_ok (m := m) a b s
  have hc := monS_cases m s
  generalize monS m s = y at *
  simp only [mon_v] at f1 g1 g2 g3
  refine Fn.of_go ln_laws_FnMonitorOthers rfl ?_
  simp [ac_laws_FnMonitorOthers, bsl]
  refine goTest_dec (fun h0 => ?_) (fun h0 => ?_)
  · simp
    exact Ends.mk [] [] (by simp)
  simp
  refine goCall_eq f1 (by simp [bsl]) ?_
  simp
  refine goCall_eq g1 (by simp) ?_
  simp
  refine goCall_eq g2 (by simp) ?_
  simp
  refine goCall_eq g3 (by simp) ?_
  simp
  cases h1 : decide (y.records = 0)
  rotate_left
  · simp
    refine goCall_eq g3 (by simp) ?_
    simp
    exact Ends.mk [] [] (by simp)
  obtain ⟨hok, hy⟩ := ht h1
  have hok2 := mon_iff.2 hok
  simp
  have hyok : MonOk y := by
    rcases hc with ⟨a, b, c⟩ | ⟨a, c⟩
    · rw [c]; exact hmo a b
    · rw [c] at h1; exact absurd h1 (by decide)
  have hyok2 := mon_iff.2 hyok
  have hb := hb hok.len hok.list
  have hyl : y.list = (textL m.list s).1 := by rw [hy]
  rw [← hyl] at hb
  generalize getP s = q at *
  obtain ⟨p, code⟩ := q
  simp only [resP, packet_v] at gp
  simp only at hb
  refine goCall_eq gp (by simp) ?_
  simp
  refine go_loop (fun i : Nat => { env := [(3, .ptr 3 0), (5, .ptr 5 0), (7, .ptr 7 0), (9, .int .i64 (i : Nat))], loc := [], box := [(3, m.cells), (5, y.cells), (7, p.cells)], stat := [] }) (fun i => i ≤ m.list.length) (fun i => m.list.length - i) 0 (by omega) (Weak.of [] [(3, 3), (5, 5), (7, 7)] (by simp [Monitor.cells, fsl, Packet.cells, csl])) ?_
  intro i hi
  simp [Monitor.cells, fsl, Packet.cells, csl]
  refine goTest_dec (fun hlt => ?_) (fun hge => ?_)
  rotate_left
  · simp
    exact Ends.mk [] [] (by simp)
  have hml := hm.len
  have hb := hb i hlt
  have hxb := hm.bd.each _ (nth_mem hlt)
  have hmd : meet (nth m.list i).ports (p.src, p.dst) = ((decide ((nth m.list i).src = p.src) && decide ((nth m.list i).dst = p.dst)) || (decide ((nth m.list i).src = p.dst) && decide ((nth m.list i).dst = p.src))) := rfl
  simp [hlt, assoc_v]
  generalize nth m.list i = x at *
  have f2 := impl_MonitorFind_ok y x.src x.dst hyb
  cases hme : meet x.ports (p.src, p.dst)
  · obtain ⟨k, k1, k2, k3⟩ := find_mem hyok.list (hb (fun _ => hme))
    have hw : whereS y x.src x.dst = ((k : Int), decide ((nth y.list k).src = x.dst)) := by unfold whereS; rw [if_pos hyok2, k1]
    have s1 := sameAssoc_self x hxb
    rw [hw] at f2
    simp only [mon_v, assoc_v] at f2 s1
    rw [hmd] at hme
    refine goCall_eq f2 (by simp) ?_
    simp
    cases d1 : decide (x.src = p.src) <;> cases d2 : decide (x.dst = p.dst) <;> cases d3 : decide (x.src = p.dst) <;> cases d4 : decide (x.dst = p.src)
    all_goals first
      | (exfalso; rw [d1, d2, d3, d4] at hme; exact absurd hme (by decide))
      | (simp [k2, k3, assoc_v, d1, d2, d3, d4]
         refine goCall_eq s1 (by simp) ?_
         simp
         exact ⟨by omega, Again.mk (i + 1) hlt (by omega) (Weak.of [] [(3, 3), (5, 5), (7, 7)] (by simp [Monitor.cells, fsl, Packet.cells, csl]))⟩)
  · simp only [mon_v] at f2
    rw [hmd] at hme
    refine goCall_eq f2 (by simp) ?_
    simp
    cases d1 : decide (x.src = p.src) <;> cases d2 : decide (x.dst = p.dst) <;> cases d3 : decide (x.src = p.dst) <;> cases d4 : decide (x.dst = p.src)
    all_goals first
      | (exfalso; rw [d1, d2, d3, d4] at hme; exact absurd hme (by decide))
      | (simp [d1, d2, d3, d4]
         exact ⟨by omega, Again.mk (i + 1) hlt (by omega) (Weak.of [] [(3, 3), (5, 5), (7, 7)] (by simp [Monitor.cells, fsl, Packet.cells, csl]))⟩)
end
end Go.Proofs.YtpcfbgeabehmbaaGreat

namespace Go.Proofs.YtpcfbgeabehmbaaGreat.fnMonitorOthers
set_option linter.all false
open Go.ChangeShapes Go.WideShapes Go.ChangeAt Go.RowKit

theorem own : ownKnob Tryz.prog.godebug = none := by kernel_rfl
theorem laidOut : laidOutB Tryz.prog = true := by kernel_rfl

set_option maxRecDepth 100000 in
theorem lifted (os : Os) (started : os.Started) (H : Type) (enc : TypeId × Value → H) :
    ReturnsInHanded {} Tryz.checked os 13 .any (Rows.fnMonitorOthersSpec.pre6 enc Tryz.prog Tryz.f13 Rows.fnMonitorOthersRow.domain false) (Rows.fnMonitorOthersSpec.post enc Tryz.prog Tryz.f13 false true false false) := by
  refine returnsInHanded_of_change_shaped (C := Tryz.checked) own started (by kernel_rfl) Tryz.func13
    (ChangeSpec.witness6 (enc := enc) (C := Tryz.checked) false ⟨#[], #[.slice none 0 0], []⟩ 8 (by kernel_rfl) (by kernel_rfl) (by kernel_rfl) (by kernel_rfl)) ?_
  intro W base args ds gs before hval0 hW _ _ hsh _
  have hval : ∀ (j : Nat) t v, Tryz.f13.params[j]? = some t → args[j]? = some v → Value.okWide Tryz.prog W .any base t v := hval0
  have hW' := hW
  obtain ⟨p, q, hA0, hV, rfl, hfz, hnd⟩ := hW
  have hA : DataW.TrodAll enc Tryz.prog W 0 (fun _ => true) true Tryz.f13.params.toList args.toList ds p := hA0
  rw [Tryz.params13] at hA hval
  obtain ⟨v0, d0, rfl, rfl, h0⟩ := trodAll_one hA
  obtain ⟨rfl, rfl⟩ := trodVars_none hV
  clear hA0 hval0
  simp only [List.append_nil] at hW'
  obtain ⟨l0, hl0⟩ := open_bytes Tryz.underlying22 Tryz.underlying5 (by kernel_rfl) (hval 0 22 v0 rfl rfl) h0
  refine ((FnMonitorOthers_ok l0).calls_true rfl W [v0] (tabsW W hsh) (rel_one hl0)).mono fun e W' ⟨he, hb⟩ => ?_
  subst he
  have hlt : ∀ x ∈ p, x.block < W.heap.size := fun x hx => by simpa using hW'.lt x hx
  have hargs := Below.trod laidOut (by kernel_rfl) (of_decide_eq_true (by kernel_rfl)) h0 hb hlt
  exact ⟨_, rfl, ⟨_, _, _, [], _, [], hW', trodAll_mk1 (shut_bool Tryz.underlying4 _), trodAll_mk1 hargs, rfl, hb.frame _, fun h => by cases h⟩⟩

theorem closed : joinedFacts Tryz.prog 13 Tryz.f13 Rows.fnMonitorOthersSpec Rows.fnMonitorOthersRow = true := by
  have key : ∀ P : Program, P = Tryz.prog → P.mayEnter = true → P.liftsFinal = false → P.make = some .cut → joinedFacts P 13 Tryz.f13 Rows.fnMonitorOthersSpec Rows.fnMonitorOthersRow = true := by
    intro P hP h1 h2 h3
    unfold joinedFacts
    rw [h1, h2, h3]
    subst hP
    kernel_rfl
  exact key _ rfl enters finals makes

theorem proved : Rows.FnMonitorOthersSaid :=
  OpenClaim.holds_of_wide 13 Tryz.f13 rfl rfl rfl rfl rfl rfl rfl ⟨rfl, rfl, rfl, rfl, rfl⟩ rfl rfl rfl rfl rfl (by kernel_rfl) Tryz.func13 closed
    (of_decide_eq_true (by kernel_rfl)) (by unfold Func.isWrapper; first | (rw [if_pos (by decide +kernel)]; kernel_rfl) | (rw [if_neg (by decide +kernel)]; exact ⟨rfl, rfl⟩))
    (fun os started H enc _ => lifted os started H enc)
end Go.Proofs.YtpcfbgeabehmbaaGreat.fnMonitorOthers
