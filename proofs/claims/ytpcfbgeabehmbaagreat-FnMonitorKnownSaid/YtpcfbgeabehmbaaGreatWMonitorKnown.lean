/-
  The law 'FnMonitorKnown' is proved: it returns true whatever the input, and the input reads as it did. No condition.
-/
import Derived.Test.YtpcfbgeabehmbaaGreatQ31
import Derived.Test.YtpcfbgeabehmbaaGreatQ32
import Derived.Test.YtpcfbgeabehmbaaGreatRows
namespace Go.Proofs.YtpcfbgeabehmbaaGreat
set_option linter.all false
section
set_option maxRecDepth 100000
def ac_laws_FnMonitorKnown : AF := ⟨[0, 2, 3, 4, 5, 6, 7, 8, 9, 11, 12, 13, 14, 17, 37, 69, 86, 110], [.t 2],
  .seq (.region [⟨(.g 2), .mv (.c (.bool false)), none⟩])
  (.seq (.seq (.region [⟨(.l 15), .mv (.g 0), none⟩, ⟨(.l 16), .len (.l 15), none⟩, ⟨(.g 17), .bin .gtr (.l 16) (.c (.int .i64 1048576)), none⟩])
  (.cond (.g 17) (.seq (.region [⟨(.g 2), .mv (.c (.bool true)), none⟩])
   (.ret))
  (.skip)))
  (.seq (.region [⟨(.l 19), .mv (.g 0), none⟩, ⟨(.l 20), .call fn_spec_DrawMonitorStep [(.l 19)], none⟩, ⟨(.l 18), .mv (.l 20), none⟩, ⟨(.l 21), .extract (.l 18) 0, none⟩, ⟨(.l 22), .extract (.l 18) 1, none⟩, ⟨(.g 3), .alloc [(.int .i64 0), .nils, .nils], none⟩, ⟨.no, .store 3 (.g 3) (.l 21), none⟩, ⟨(.g 4), .mv (.l 22), none⟩])
  (.seq (.region [⟨(.l 23), .load true 3 (.g 3), none⟩, ⟨(.l 24), .mv (.g 4), none⟩, ⟨(.l 25), .call fn_impl_MonitorStep [(.l 23), (.l 24)], none⟩, ⟨(.g 5), .alloc [(.int .i64 0), .nils, .nils], none⟩, ⟨.no, .store 3 (.g 5) (.l 25), none⟩])
  (.seq (.region [⟨(.l 26), .load true 3 (.g 3), none⟩, ⟨(.l 27), .mv (.g 4), none⟩, ⟨(.l 28), .call fn_spec_MonitorStep [(.l 26), (.l 27)], none⟩, ⟨(.g 6), .alloc [(.int .i64 0), .nils, .nils], none⟩, ⟨.no, .store 3 (.g 6) (.l 28), none⟩])
  (.seq (.seq (.region [⟨(.l 29), .load true 3 (.g 5), none⟩, ⟨(.l 30), .load true 3 (.g 6), none⟩, ⟨(.l 31), .call fn_laws_sameMonitor [(.l 29), (.l 30)], none⟩, ⟨(.l 32), .un .not (.l 31), none⟩, ⟨(.l 33), .mv (.l 32), none⟩, ⟨(.l 34), .faddr 0 (.g 6), (some ((.l 33), false))⟩, ⟨(.l 35), .load false 1 (.l 34), (some ((.l 33), false))⟩, ⟨(.l 36), .bin .eql (.l 35) (.c (.int .i64 0)), (some ((.l 33), false))⟩, ⟨(.g 37), .pick (.l 33) (.c (.bool true)) (.l 36), none⟩])
  (.cond (.g 37) (.seq (.region [⟨(.l 38), .load true 3 (.g 5), none⟩, ⟨(.l 39), .load true 3 (.g 6), none⟩, ⟨(.l 40), .call fn_laws_sameMonitor [(.l 38), (.l 39)], none⟩, ⟨(.g 2), .mv (.l 40), none⟩])
   (.ret))
  (.skip)))
  (.seq (.region [⟨(.l 42), .mv (.g 4), none⟩, ⟨(.l 43), .call fn_impl_PacketGet [(.l 42)], none⟩, ⟨(.l 41), .mv (.l 43), none⟩, ⟨(.l 44), .extract (.l 41) 0, none⟩, ⟨(.l 45), .extract (.l 41) 1, none⟩, ⟨(.g 7), .alloc [(.int .i64 0), (.int .i64 0), (.int .i64 0), .nils], none⟩, ⟨.no, .store 4 (.g 7) (.l 44), none⟩, ⟨(.g 8), .mv (.l 45), none⟩])
  (.seq (.region [⟨(.l 47), .load true 3 (.g 3), none⟩, ⟨(.l 48), .faddr 0 (.g 7), none⟩, ⟨(.l 49), .load false 1 (.l 48), none⟩, ⟨(.l 50), .faddr 1 (.g 7), none⟩, ⟨(.l 51), .load false 1 (.l 50), none⟩, ⟨(.l 52), .call fn_impl_MonitorFind [(.l 47), (.l 49), (.l 51)], none⟩, ⟨(.l 46), .mv (.l 52), none⟩, ⟨(.l 53), .extract (.l 46) 0, none⟩, ⟨(.l 54), .extract (.l 46) 1, none⟩, ⟨(.g 9), .mv (.l 53), none⟩, ⟨(.l 10), .mv (.l 54), none⟩])
  (.seq (.seq (.region [⟨(.l 55), .mv (.g 8), none⟩, ⟨(.l 56), .bin .neq (.l 55) (.c (.int .i64 0)), none⟩, ⟨(.l 57), .mv (.l 56), none⟩, ⟨(.l 58), .mv (.g 9), (some ((.l 57), false))⟩, ⟨(.l 59), .bin .lss (.l 58) (.c (.int .i64 0)), (some ((.l 57), false))⟩, ⟨(.l 60), .pick (.l 57) (.c (.bool true)) (.l 59), none⟩, ⟨(.l 61), .mv (.l 60), none⟩, ⟨(.l 62), .faddr 1 (.g 3), (some ((.l 61), false))⟩, ⟨(.l 63), .load false 1 (.l 62), (some ((.l 61), false))⟩, ⟨(.l 64), .mv (.g 9), (some ((.l 61), false))⟩, ⟨(.l 65), .elS 14 (.l 63) (.l 64), (some ((.l 61), false))⟩, ⟨(.l 66), .faddr 2 (.l 65), (some ((.l 61), false))⟩, ⟨(.l 67), .load false 1 (.l 66), (some ((.l 61), false))⟩, ⟨(.l 68), .bin .eql (.l 67) (.c (.int .i64 7)), (some ((.l 61), false))⟩, ⟨(.g 69), .pick (.l 61) (.c (.bool true)) (.l 68), none⟩])
  (.cond (.g 69) (.seq (.region [⟨(.g 2), .mv (.c (.bool true)), none⟩])
   (.ret))
  (.skip)))
  (.seq (.drawn [⟨(.l 71), .faddr 1 (.g 3), none⟩, ⟨(.l 72), .load false 1 (.l 71), none⟩, ⟨(.l 73), .mv (.g 9), none⟩, ⟨(.l 74), .elS 14 (.l 72) (.l 73), none⟩, ⟨(.l 75), .load true 14 (.l 74), none⟩, ⟨(.l 76), .load true 4 (.g 7), none⟩, ⟨(.l 77), .call fn_impl_AssocStep [(.l 75), (.l 76)], none⟩, ⟨(.l 70), .mv (.l 77), none⟩, ⟨(.l 78), .extract (.l 70) 0, none⟩, ⟨(.l 79), .extract (.l 70) 1, none⟩, ⟨(.g 11), .alloc [(.int .i64 0), (.int .i64 0), (.int .i64 0), (.bool false), (.int .i64 0), (.int .i64 0), (.int .i64 0), .nils, (.int .i64 0), (.int .i64 0), (.int .i64 0), (.int .i64 0), .nils, (.int .i64 0)], none⟩, ⟨.no, .store 14 (.g 11) (.l 78), none⟩] [[], [], [], [], [], [4, 3, 1], [], [], [], [], [6, 5, 4, 3, 1], []] [⟨(.g 12), .mv (.l 79), none⟩])
  (.seq (.region [⟨(.l 80), .faddr 2 (.g 3), none⟩, ⟨(.l 81), .load false 1 (.l 80), none⟩, ⟨(.l 82), .len (.l 81), none⟩, ⟨(.g 13), .mv (.l 82), none⟩])
  (.seq (.seq (.region [⟨(.g 14), .mv (.c (.int .i64 0)), none⟩])
  (.block 0 (.loop (.seq (.seq (.region [⟨(.l 83), .mv (.g 14), none⟩, ⟨(.l 84), .mv (.g 12), none⟩, ⟨(.l 85), .len (.l 84), none⟩, ⟨(.g 86), .bin .lss (.l 83) (.l 85), none⟩])
    (.cond (.g 86) (.skip)
    (.exit 0)))
    (.seq (.block 1 (.seq (.drawn [⟨(.l 89), .mv (.g 13), none⟩, ⟨(.l 90), .mv (.g 14), none⟩, ⟨(.l 91), .bin .add (.l 89) (.l 90), none⟩, ⟨(.l 92), .faddr 2 (.g 5), none⟩, ⟨(.l 93), .load false 1 (.l 92), none⟩, ⟨(.l 94), .len (.l 93), none⟩, ⟨(.l 95), .bin .geq (.l 91) (.l 94), none⟩, ⟨(.l 96), .mv (.l 95), none⟩, ⟨(.l 97), .faddr 2 (.g 5), (some ((.l 96), false))⟩, ⟨(.l 98), .load false 1 (.l 97), (some ((.l 96), false))⟩, ⟨(.l 99), .mv (.g 13), (some ((.l 96), false))⟩, ⟨(.l 100), .mv (.g 14), (some ((.l 96), false))⟩, ⟨(.l 101), .bin .add (.l 99) (.l 100), (some ((.l 96), false))⟩, ⟨(.l 102), .elS 2 (.l 98) (.l 101), (some ((.l 96), false))⟩, ⟨(.l 103), .faddr 1 (.l 102), (some ((.l 96), false))⟩, ⟨(.l 104), .load false 1 (.l 103), (some ((.l 96), false))⟩, ⟨(.l 105), .mv (.g 12), (some ((.l 96), false))⟩, ⟨(.l 106), .mv (.g 14), (some ((.l 96), false))⟩, ⟨(.l 107), .elS 1 (.l 105) (.l 106), (some ((.l 96), false))⟩, ⟨(.l 108), .load false 1 (.l 107), (some ((.l 96), false))⟩] [[], [], [], [], [], [], [], [], [], [], [], [], [], [], [], [], [], [], [15, 13, 9], [15, 13, 9]] [⟨(.l 109), .bin .neq (.l 104) (.l 108), (some ((.l 96), false))⟩, ⟨(.g 110), .pick (.l 96) (.c (.bool true)) (.l 109), none⟩])
     (.cond (.g 110) (.seq (.region [⟨(.g 2), .mv (.c (.bool false)), none⟩])
      (.ret))
     (.skip))))
    (.region [⟨(.l 87), .mv (.g 14), none⟩, ⟨(.l 88), .bin .add (.l 87) (.c (.int .i64 1)), none⟩, ⟨(.g 14), .mv (.l 88), none⟩]))))))
  (.seq (.drawn [⟨(.l 111), .faddr 2 (.g 5), none⟩, ⟨(.l 112), .load false 1 (.l 111), none⟩, ⟨(.l 113), .len (.l 112), none⟩, ⟨(.l 114), .mv (.g 13), none⟩, ⟨(.l 115), .mv (.g 12), none⟩, ⟨(.l 116), .len (.l 115), none⟩, ⟨(.l 117), .bin .add (.l 114) (.l 116), none⟩, ⟨(.l 118), .bin .eql (.l 113) (.l 117), none⟩, ⟨(.l 119), .mv (.l 118), none⟩, ⟨(.l 120), .faddr 1 (.g 5), (some ((.l 119), true))⟩, ⟨(.l 121), .load false 1 (.l 120), (some ((.l 119), true))⟩, ⟨(.l 122), .mv (.g 9), (some ((.l 119), true))⟩, ⟨(.l 123), .elS 14 (.l 121) (.l 122), (some ((.l 119), true))⟩, ⟨(.l 124), .load true 14 (.l 123), (some ((.l 119), true))⟩, ⟨(.l 125), .load true 14 (.g 11), (some ((.l 119), true))⟩] [[], [], [], [], [], [2, 1], [], [], [], [], [], [], [], [], [13, 12, 10]] [⟨(.l 126), .call fn_laws_sameAssoc [(.l 124), (.l 125)], (some ((.l 119), true))⟩, ⟨(.l 127), .pick (.l 119) (.l 126) (.c (.bool false)), none⟩, ⟨(.g 2), .mv (.l 127), none⟩])
  (.ret)))))))))))))⟩
theorem ln_laws_FnMonitorKnown : Linked Tryz.prog fn_laws_FnMonitorKnown ac_laws_FnMonitorKnown := ⟨Tryz.f12, _, Tryz.func12, rfl, by kernel_rfl, by kernel_rfl, by kernel_rfl, by kernel_rfl⟩
end
end Go.Proofs.YtpcfbgeabehmbaaGreat

namespace Go.Proofs.YtpcfbgeabehmbaaGreat
set_option linter.all false
section
set_option maxRecDepth 200000
set_option maxHeartbeats 8000000
attribute [-simp] List.getD_eq_getElem?_getD

theorem FnMonitorKnown_ok (code : List UInt8) : Fn Tryz.prog fn_laws_FnMonitorKnown [bsl code] [] (.bool true) [] := by
  obtain ⟨m, s, hm, hs, f1⟩ := DrawMonitorStep_ok code
  have hmf := hm.found
  have g1 := impl_MonitorStep_ok m s hm.bd (by omega) (by omega)
  have g2 := spec_MonitorStep_ok m s hm.bd (by omega) (by omega)
  have hyb := monS_bd hmf s
  have g3 := sameMonitor_self (monS m s) hyb
  have ht := monS_taken (m := m) (s := s)
  have gp := impl_PacketGet_ok s (by omega)
  have hb := fun i => text_known (l := m.list) (t := s) (i := i)
  have hgc := getP_ok (t := s)
  generalize monS m s = y at *
  simp only [mon_v] at f1 g1 g2 g3
  refine Fn.of_go ln_laws_FnMonitorKnown rfl ?_
  simp [ac_laws_FnMonitorKnown, bsl]
  refine goTest_dec (fun h0 => ?_) (fun h0 => ?_)
  · simp
    exact Ends.mk [] [] (by simp)
  simp
  refine goCall_eq f1 (by simp [bsl]) ?_
  simp
  refine goCall_eq g1 (by simp) ?_
  simp
  refine goCall_eq g2 (by simp) ?_
  simp
  refine goCall_eq g3 (by simp) ?_
  simp
  cases h1 : decide (y.records = 0)
  rotate_left
  · simp
    refine goCall_eq g3 (by simp) ?_
    simp
    exact Ends.mk [] [] (by simp)
  obtain ⟨hok, hy⟩ := ht h1
  have hok2 := mon_iff.2 hok
  simp
  generalize getP s = q at *
  obtain ⟨p, code⟩ := q
  simp only [resP, packet_v] at gp
  simp only at hb hgc
  have f2 := impl_MonitorFind_ok m p.src p.dst hm.bd
  have hw : whereS m p.src p.dst = (match findM m.list p.src p.dst with | none => (-1, false) | some k => ((k : Int), decide ((nth m.list k).src = p.dst))) := by unfold whereS; rw [if_pos hok2]; rfl
  simp only [mon_v] at f2
  refine goCall_eq gp (by simp) ?_
  simp
  cases e : findM m.list p.src p.dst with
  | none =>
    rw [hw, e] at f2
    simp only at f2
    refine goCall_eq f2 (by simp) ?_
    simp
    cases h2 : decide (code = 0)
    · simp
      exact Ends.mk [] [] (by simp)
    · simp
      exact Ends.mk [] [] (by simp)
  | some k =>
    rw [hw, e] at f2
    simp only at f2
    obtain ⟨hk, hkm⟩ := findM_some e
    refine goCall_eq f2 (by simp) ?_
    simp
    cases h2 : decide (code = 0)
    · simp
      exact Ends.mk [] [] (by simp)
    have h2 := of_decide_eq_true h2
    have hp := hgc h2
    simp [hk, assoc_v]
    cases h3 : decide ((nth m.list k).state = 7)
    rotate_left
    · simp
      exact Ends.mk [] [] (by simp)
    have hb := hb k h2 e (of_decide_eq_false h3)
    rw [hb] at hy
    clear hb
    have a1 := impl_AssocStep_ok (nth m.list k) p (hm.bd.each _ (nth_mem hk)) (by have := (packet_ok.1 hp).2.2.2.2.2; omega)
    have hln := stepS_len (nth m.list k) p
    have hzb := stepS_bd (x := nth m.list k) p
    generalize stepS (nth m.list k) p = r at *
    obtain ⟨z, rl⟩ := r
    simp only at hy hln hzb
    have hl : y.list = m.list.set k z := by rw [hy]
    have hf : y.found = m.found ++ rl.map fun r => (m.records, r) := by rw [hy]
    have hfl : y.found.length = m.found.length + rl.length := by rw [hf]; simp
    have hll : y.list.length = m.list.length := by rw [hl]; simp
    have hn : nth y.list k = z := by rw [nth_eq (by omega)]; simp [hl]
    have hnf : ∀ i, i < rl.length → nth y.found (m.found.length + i) = (m.records, nth rl i) := by
      intro i hi
      rw [nth_eq (by omega), nth_eq hi]
      simp [hf]
    have s1 := sameAssoc_self z hzb
    simp only [assoc_v, packet_v, isl] at a1 s1
    simp [hk, assoc_v]
    refine goDCall_eq a1 (by simp) (by simp) ?_
    simp
    refine go_loop (fun i : Nat => { env := [(3, .ptr 3 0), (5, .ptr 5 0), (9, .int .i64 (k : Nat)), (11, .ptr 11 0), (12, isl rl), (13, .int .i64 (m.found.length : Nat)), (14, .int .i64 (i : Nat))], loc := [], box := [(3, m.cells), (5, y.cells), (11, z.cells)], stat := [] }) (fun i => i ≤ rl.length) (fun i => rl.length - i) 0 (by omega) (Weak.of [] [(3, 3), (5, 5), (11, 11)] (by simp [Monitor.cells, fsl, isl, Assoc.cells, Side.cells, psl])) ?_
    intro i hi
    simp [Monitor.cells, fsl, isl, Assoc.cells, Side.cells, psl]
    refine goTest_dec (fun hlt => ?_) (fun hge => ?_)
    · have hlt2 : m.found.length + i < y.found.length := by omega
      have e3 : decide ((y.found.length : Int) ≤ (m.found.length : Int) + (i : Int)) = false := decide_eq_false (by omega)
      have ti : ((m.found.length : Int) + (i : Int)).toNat = m.found.length + i := by omega
      have hnfi := hnf i hlt
      simp [hlt, hlt2, hnfi, fV, iV, e3, ti]
      exact ⟨by omega, ⟨by omega, by omega⟩, by omega, Again.mk (i + 1) hlt (by omega) (Weak.of [] [(3, 3), (5, 5), (11, 11)] (by simp [Monitor.cells, fsl, isl, Assoc.cells, Side.cells, psl]))⟩
    · obtain rfl : i = rl.length := by omega
      simp [hfl, hn, hll, hk, assoc_v]
      refine ⟨by omega, ?_⟩
      refine goCall_eq s1 (by simp) ?_
      simp
      exact Ends.mk [] [] (by simp)
end
end Go.Proofs.YtpcfbgeabehmbaaGreat

namespace Go.Proofs.YtpcfbgeabehmbaaGreat.fnMonitorKnown
set_option linter.all false
open Go.ChangeShapes Go.WideShapes Go.ChangeAt Go.RowKit

theorem own : ownKnob Tryz.prog.godebug = none := by kernel_rfl
theorem laidOut : laidOutB Tryz.prog = true := by kernel_rfl

set_option maxRecDepth 100000 in
theorem lifted (os : Os) (started : os.Started) (H : Type) (enc : TypeId × Value → H) :
    ReturnsInHanded {} Tryz.checked os 12 .any (Rows.fnMonitorKnownSpec.pre6 enc Tryz.prog Tryz.f12 Rows.fnMonitorKnownRow.domain false) (Rows.fnMonitorKnownSpec.post enc Tryz.prog Tryz.f12 false true false false) := by
  refine returnsInHanded_of_change_shaped (C := Tryz.checked) own started (by kernel_rfl) Tryz.func12
    (ChangeSpec.witness6 (enc := enc) (C := Tryz.checked) false ⟨#[], #[.slice none 0 0], []⟩ 8 (by kernel_rfl) (by kernel_rfl) (by kernel_rfl) (by kernel_rfl)) ?_
  intro W base args ds gs before hval0 hW _ _ hsh _
  have hval : ∀ (j : Nat) t v, Tryz.f12.params[j]? = some t → args[j]? = some v → Value.okWide Tryz.prog W .any base t v := hval0
  have hW' := hW
  obtain ⟨p, q, hA0, hV, rfl, hfz, hnd⟩ := hW
  have hA : DataW.TrodAll enc Tryz.prog W 0 (fun _ => true) true Tryz.f12.params.toList args.toList ds p := hA0
  rw [Tryz.params12] at hA hval
  obtain ⟨v0, d0, rfl, rfl, h0⟩ := trodAll_one hA
  obtain ⟨rfl, rfl⟩ := trodVars_none hV
  clear hA0 hval0
  simp only [List.append_nil] at hW'
  obtain ⟨l0, hl0⟩ := open_bytes Tryz.underlying22 Tryz.underlying5 (by kernel_rfl) (hval 0 22 v0 rfl rfl) h0
  refine ((FnMonitorKnown_ok l0).calls_true rfl W [v0] (tabsW W hsh) (rel_one hl0)).mono fun e W' ⟨he, hb⟩ => ?_
  subst he
  have hlt : ∀ x ∈ p, x.block < W.heap.size := fun x hx => by simpa using hW'.lt x hx
  have hargs := Below.trod laidOut (by kernel_rfl) (of_decide_eq_true (by kernel_rfl)) h0 hb hlt
  exact ⟨_, rfl, ⟨_, _, _, [], _, [], hW', trodAll_mk1 (shut_bool Tryz.underlying4 _), trodAll_mk1 hargs, rfl, hb.frame _, fun h => by cases h⟩⟩

theorem closed : joinedFacts Tryz.prog 12 Tryz.f12 Rows.fnMonitorKnownSpec Rows.fnMonitorKnownRow = true := by
  have key : ∀ P : Program, P = Tryz.prog → P.mayEnter = true → P.liftsFinal = false → P.make = some .cut → joinedFacts P 12 Tryz.f12 Rows.fnMonitorKnownSpec Rows.fnMonitorKnownRow = true := by
    intro P hP h1 h2 h3
    unfold joinedFacts
    rw [h1, h2, h3]
    subst hP
    kernel_rfl
  exact key _ rfl enters finals makes

theorem proved : Rows.FnMonitorKnownSaid :=
  OpenClaim.holds_of_wide 12 Tryz.f12 rfl rfl rfl rfl rfl rfl rfl ⟨rfl, rfl, rfl, rfl, rfl⟩ rfl rfl rfl rfl rfl (by kernel_rfl) Tryz.func12 closed
    (of_decide_eq_true (by kernel_rfl)) (by unfold Func.isWrapper; first | (rw [if_pos (by decide +kernel)]; kernel_rfl) | (rw [if_neg (by decide +kernel)]; exact ⟨rfl, rfl⟩))
    (fun os started H enc _ => lifted os started H enc)
end Go.Proofs.YtpcfbgeabehmbaaGreat.fnMonitorKnown
