/-
  The law 'FnMonitorNoise' is proved: it returns true whatever the input, and the input reads as it did. No condition.
-/
import Derived.Test.YtpcfbgeabehmbaaGreatV32
import Derived.Test.YtpcfbgeabehmbaaGreatRows
namespace Go.Proofs.YtpcfbgeabehmbaaGreat
set_option linter.all false
section
set_option maxRecDepth 100000
def ac_laws_FnMonitorNoise : AF := ⟨[0, 1, 4, 5, 6, 7, 8, 9, 10, 11, 19, 39, 50], [.t 4],
  .seq (.region [⟨(.g 4), .mv (.c (.bool false)), none⟩])
  (.seq (.seq (.region [⟨(.l 12), .mv (.g 0), none⟩, ⟨(.l 13), .len (.l 12), none⟩, ⟨(.l 14), .bin .gtr (.l 13) (.c (.int .i64 1048576)), none⟩, ⟨(.l 15), .mv (.l 14), none⟩, ⟨(.l 16), .mv (.g 1), (some ((.l 15), false))⟩, ⟨(.l 17), .len (.l 16), (some ((.l 15), false))⟩, ⟨(.l 18), .bin .gtr (.l 17) (.c (.int .i64 1048576)), (some ((.l 15), false))⟩, ⟨(.g 19), .pick (.l 15) (.c (.bool true)) (.l 18), none⟩])
  (.cond (.g 19) (.seq (.region [⟨(.g 4), .mv (.c (.bool true)), none⟩])
   (.ret))
  (.skip)))
  (.seq (.region [⟨(.l 20), .mv (.g 0), none⟩, ⟨(.l 21), .call fn_spec_DrawMonitorRun [(.l 20)], none⟩, ⟨(.g 5), .mv (.l 21), none⟩])
  (.seq (.region [⟨(.l 22), .mv (.g 5), none⟩, ⟨(.l 23), .call fn_impl_MonitorRun [(.l 22)], none⟩, ⟨(.g 6), .alloc [(.int .i64 0), .nils, .nils], none⟩, ⟨.no, .store 3 (.g 6) (.l 23), none⟩])
  (.seq (.region [⟨(.l 24), .mv (.g 5), none⟩, ⟨(.l 25), .call fn_spec_MonitorRun [(.l 24)], none⟩, ⟨(.g 7), .alloc [(.int .i64 0), .nils, .nils], none⟩, ⟨.no, .store 3 (.g 7) (.l 25), none⟩])
  (.seq (.seq (.region [⟨(.l 26), .load true 3 (.g 6), none⟩, ⟨(.l 27), .load true 3 (.g 7), none⟩, ⟨(.l 28), .call fn_laws_sameMonitor [(.l 26), (.l 27)], none⟩, ⟨(.l 29), .un .not (.l 28), none⟩, ⟨(.l 30), .mv (.l 29), none⟩, ⟨(.l 31), .mv (.g 5), (some ((.l 30), false))⟩, ⟨(.l 32), .call fn_spec_CaptureValid [(.l 31)], (some ((.l 30), false))⟩, ⟨(.l 33), .un .not (.l 32), (some ((.l 30), false))⟩, ⟨(.l 34), .pick (.l 30) (.c (.bool true)) (.l 33), none⟩, ⟨(.l 35), .mv (.l 34), none⟩, ⟨(.l 36), .mv (.g 5), (some ((.l 35), false))⟩, ⟨(.l 37), .len (.l 36), (some ((.l 35), false))⟩, ⟨(.l 38), .bin .geq (.l 37) (.c (.int .i64 60)), (some ((.l 35), false))⟩, ⟨(.g 39), .pick (.l 35) (.c (.bool true)) (.l 38), none⟩])
  (.cond (.g 39) (.seq (.region [⟨(.l 40), .load true 3 (.g 6), none⟩, ⟨(.l 41), .load true 3 (.g 7), none⟩, ⟨(.l 42), .call fn_laws_sameMonitor [(.l 40), (.l 41)], none⟩, ⟨(.g 4), .mv (.l 42), none⟩])
   (.ret))
  (.skip)))
  (.seq (.region [⟨(.l 43), .mv (.g 1), none⟩, ⟨(.l 44), .len (.l 43), none⟩, ⟨(.l 45), .mv (.g 5), none⟩, ⟨(.l 46), .len (.l 45), none⟩, ⟨(.l 47), .bin .add (.l 46) (.c (.int .i64 1)), none⟩, ⟨(.l 48), .bin .rem (.l 44) (.l 47), none⟩, ⟨(.g 8), .mv (.l 48), none⟩])
  (.seq (.region [⟨(.g 9), .mv (.c (.int .i64 0)), none⟩])
  (.seq (.seq (.region [⟨(.l 49), .mv (.g 8), none⟩, ⟨(.g 50), .bin .gtr (.l 49) (.c (.int .i64 0)), none⟩])
  (.cond (.g 50) (.region [⟨(.l 51), .mv (.g 5), none⟩, ⟨(.l 52), .mv (.g 8), none⟩, ⟨(.l 53), .bin .sub (.l 52) (.c (.int .i64 1)), none⟩, ⟨(.l 54), .elS 2 (.l 51) (.l 53), none⟩, ⟨(.l 55), .faddr 0 (.l 54), none⟩, ⟨(.l 56), .load false 1 (.l 55), none⟩, ⟨(.g 9), .mv (.l 56), none⟩])
  (.skip)))
  (.seq (.region [⟨(.l 57), .lits 2 [], none⟩, ⟨(.l 58), .mv (.g 5), none⟩, ⟨(.l 59), .mv (.g 8), none⟩, ⟨(.l 60), .cutSl 2 (.l 58) none (some (.l 59)), none⟩, ⟨(.l 61), .append 2 24 (.l 57) (.l 60), none⟩, ⟨(.l 62), .mv (.g 9), none⟩, ⟨(.l 63), .build [(.int .i64 0), (.str [])] [(0, 1, (.l 62)), (1, 1, (.c (.str [63])))], none⟩, ⟨(.l 64), .lits 2 [(.l 63)], none⟩, ⟨(.l 65), .append 2 24 (.l 61) (.l 64), none⟩, ⟨(.g 10), .mv (.l 65), none⟩])
  (.seq (.region [⟨(.l 66), .mv (.g 10), none⟩, ⟨(.l 67), .mv (.g 5), none⟩, ⟨(.l 68), .mv (.g 8), none⟩, ⟨(.l 69), .cutSl 2 (.l 67) (some (.l 68)) none, none⟩, ⟨(.l 70), .append 2 24 (.l 66) (.l 69), none⟩, ⟨(.l 71), .call fn_impl_MonitorRun [(.l 70)], none⟩, ⟨(.g 11), .alloc [(.int .i64 0), .nils, .nils], none⟩, ⟨.no, .store 3 (.g 11) (.l 71), none⟩])
  (.seq (.region [⟨(.l 72), .faddr 1 (.g 11), none⟩, ⟨(.l 73), .load false 1 (.l 72), none⟩, ⟨(.l 74), .faddr 1 (.g 6), none⟩, ⟨(.l 75), .load false 1 (.l 74), none⟩, ⟨(.l 76), .call fn_laws_sameAssocs [(.l 73), (.l 75)], none⟩, ⟨(.l 77), .mv (.l 76), none⟩, ⟨(.l 78), .faddr 2 (.g 11), (some ((.l 77), true))⟩, ⟨(.l 79), .load false 1 (.l 78), (some ((.l 77), true))⟩, ⟨(.l 80), .len (.l 79), (some ((.l 77), true))⟩, ⟨(.l 81), .faddr 2 (.g 6), (some ((.l 77), true))⟩, ⟨(.l 82), .load false 1 (.l 81), (some ((.l 77), true))⟩, ⟨(.l 83), .len (.l 82), (some ((.l 77), true))⟩, ⟨(.l 84), .bin .add (.l 83) (.c (.int .i64 1)), (some ((.l 77), true))⟩, ⟨(.l 85), .bin .eql (.l 80) (.l 84), (some ((.l 77), true))⟩, ⟨(.l 86), .pick (.l 77) (.l 85) (.c (.bool false)), none⟩, ⟨(.g 4), .mv (.l 86), none⟩])
  (.ret))))))))))))⟩
theorem ln_laws_FnMonitorNoise : Linked Tryz.prog fn_laws_FnMonitorNoise ac_laws_FnMonitorNoise := ⟨Tryz.f3, _, Tryz.func3, rfl, by kernel_rfl, by kernel_rfl, by kernel_rfl, by kernel_rfl⟩
end
end Go.Proofs.YtpcfbgeabehmbaaGreat

namespace Go.Proofs.YtpcfbgeabehmbaaGreat
set_option linter.all false
section
set_option maxRecDepth 200000
set_option maxHeartbeats 8000000
attribute [-simp] List.getD_eq_getElem?_getD

theorem FnMonitorNoise_ok (code more : List UInt8) : Fn Tryz.prog fn_laws_FnMonitorNoise [bsl code, bsl more] [] (.bool true) [] := by
  obtain ⟨l, hl, f1⟩ := DrawMonitorRun_ok code
  have hll := hl.len
  have htx : ∀ r ∈ l, r.text.length ≤ 1000000 := fun r hr => by have := hl.texts r hr; omega
  have g1 := impl_MonitorRun_ok l (by omega) htx
  have g2 := spec_MonitorRun_ok l (by omega) htx
  have hyb := (run_sm l).bd (by omega)
  have g3 := sameMonitor_self (runS l) hyb
  have v1 := spec_CaptureValid_ok l (by omega)
  have hrn := fun (a : capOk l = true) (b : l.length < 60) (k : Nat) (c : k ≤ l.length) => run_noise a b c
  generalize hy : runS l = y at *
  simp only [mon_v, rsl] at f1 g1 g2 g3 v1
  refine Fn.of_go ln_laws_FnMonitorNoise rfl ?_
  simp [ac_laws_FnMonitorNoise, bsl]
  cases h0 : decide (1048576 < code.length)
  rotate_left
  · simp
    exact Ends.mk [] [] (by simp)
  simp
  cases h00 : decide (1048576 < more.length)
  rotate_left
  · simp
    exact Ends.mk [] [] (by simp)
  simp
  refine goCall_eq f1 (by simp [bsl]) ?_
  simp
  refine goCall_eq g1 (by simp) ?_
  simp
  refine goCall_eq g2 (by simp) ?_
  simp
  refine goCall_eq g3 (by simp) ?_
  simp
  refine goCall_eq v1 (by simp) ?_
  cases q : capOk l
  · simp
    refine goCall_eq g3 (by simp) ?_
    simp
    exact Ends.mk [] [] (by simp)
  have hlc : l.length ≤ 60 := by simp [capOk] at q; exact q.2
  simp
  cases h3 : decide (60 ≤ l.length)
  rotate_left
  · simp
    refine goCall_eq g3 (by simp) ?_
    simp
    exact Ends.mk [] [] (by simp)
  obtain ⟨k, hk⟩ : ∃ k, k = more.length % (l.length + 1) := ⟨_, rfl⟩
  have hkl : k ≤ l.length := by have := Nat.mod_lt more.length (show 0 < l.length + 1 by omega); omega
  have hkm : ((more.length : Int)).tmod ((l.length : Int) + 1) = (k : Int) := by
    rw [Int.tmod_eq_emod_of_nonneg (by omega), hk]; exact (Int.natCast_emod _ _).symm
  have h3 := of_decide_eq_false h3
  have hrn := hrn q (by omega) k hkl
  have g4 := impl_MonitorRun_ok (l.take k ++ [⟨timeAt l k, noise⟩] ++ l.drop k) (by simp; omega) (fun r hr => by
    rcases List.mem_append.1 hr with a | a
    · rcases List.mem_append.1 a with a | a
      · exact htx r (List.mem_of_mem_take a)
      · rw [List.mem_singleton.1 a]; simp [noise]
    · exact htx r (List.mem_of_mem_drop a))
  generalize runS (l.take k ++ [⟨timeAt l k, noise⟩] ++ l.drop k) = z at *
  have a1 := sameAssocs_self y.list (by have := hyb.len; omega) hyb.each
  have hfy := hyb.found
  simp only [asl] at a1
  simp only [mon_v, rsl, List.map_append, List.map_take, List.map_drop, List.map_cons, List.map_nil, rec_v, noise] at g4
  have etk : List.take l.length (l.map Tap.v) = l.map Tap.v := List.take_of_length_le (by simp)
  have hvt : ∀ z ∈ List.take k (l.map Tap.v), z.cells.length = 2 := by
    intro z hz
    obtain ⟨x, _, rfl⟩ := List.mem_map.1 (List.mem_of_mem_take hz)
    rfl
  have hvd : ∀ z ∈ List.drop k (l.map Tap.v), z.cells.length = 2 := by
    intro z hz
    obtain ⟨x, _, rfl⟩ := List.mem_map.1 (List.mem_of_mem_drop hz)
    rfl
  have ht : timeAt l k = if k = 0 then 0 else (nth l (k - 1)).time := rfl
  simp [hkm]
  refine ⟨by omega, by omega, ?_⟩
  refine goTest_dec (fun w => ?_) (fun w => ?_)
  · rw [if_neg (by omega)] at ht
    rw [ht] at g4
    have hk1 : k - 1 < l.length := by omega
    have hkc : ((k : Int) - 1).toNat = k - 1 := by omega
    simp [hk1, hkc, rec_v, etk]
    refine ⟨by omega, ⟨by omega, by omega⟩, by omega, ⟨hvt, by unfold roomOk; omega⟩, by unfold roomOk; omega, by omega, ⟨hvd, by unfold roomOk; omega⟩, ?_⟩
    refine goCall_gen [] [] [912] [] none g4 (by simp) ?_
    simp [hrn.1]
    refine goCall_eq a1 (by simp) ?_
    simp [hrn.2]
    refine ⟨by omega, ?_⟩
    exact Ends.mk [] [] (by simp)
  · rw [if_pos (by omega)] at ht
    rw [ht] at g4
    simp [etk]
    refine ⟨by omega, ⟨hvt, by unfold roomOk; omega⟩, by unfold roomOk; omega, by omega, ⟨hvd, by unfold roomOk; omega⟩, ?_⟩
    refine goCall_gen [] [] [912] [] none g4 (by simp) ?_
    simp [hrn.1]
    refine goCall_eq a1 (by simp) ?_
    simp [hrn.2]
    refine ⟨by omega, ?_⟩
    exact Ends.mk [] [] (by simp)
end
end Go.Proofs.YtpcfbgeabehmbaaGreat

namespace Go.Proofs.YtpcfbgeabehmbaaGreat.fnMonitorNoise
set_option linter.all false
open Go.ChangeShapes Go.WideShapes Go.ChangeAt Go.RowKit

theorem own : ownKnob Tryz.prog.godebug = none := by kernel_rfl
theorem laidOut : laidOutB Tryz.prog = true := by kernel_rfl

set_option maxRecDepth 100000 in
theorem lifted (os : Os) (started : os.Started) (H : Type) (enc : TypeId × Value → H) :
    ReturnsInHanded {} Tryz.checked os 3 .any (Rows.fnMonitorNoiseSpec.pre6 enc Tryz.prog Tryz.f3 Rows.fnMonitorNoiseRow.domain false) (Rows.fnMonitorNoiseSpec.post enc Tryz.prog Tryz.f3 false true false false) := by
  refine returnsInHanded_of_change_shaped (C := Tryz.checked) own started (by kernel_rfl) Tryz.func3
    (ChangeSpec.witness6 (enc := enc) (C := Tryz.checked) false ⟨#[], #[.slice none 0 0, .slice none 0 0], []⟩ 8 (by kernel_rfl) (by kernel_rfl) (by kernel_rfl) (by kernel_rfl)) ?_
  intro W base args ds gs before hval0 hW _ _ hsh _
  have hval : ∀ (j : Nat) t v, Tryz.f3.params[j]? = some t → args[j]? = some v → Value.okWide Tryz.prog W .any base t v := hval0
  have hW' := hW
  obtain ⟨p, q, hA0, hV, rfl, hfz, hnd⟩ := hW
  have hA : DataW.TrodAll enc Tryz.prog W 0 (fun _ => true) true Tryz.f3.params.toList args.toList ds p := hA0
  rw [Tryz.params3] at hA hval
  obtain ⟨v0, v1, d0, d1, p0, p1, rfl, rfl, rfl, h0, h1⟩ := trodAll_two hA
  obtain ⟨rfl, rfl⟩ := trodVars_none hV
  clear hA0 hval0
  simp only [List.append_nil] at hW'
  obtain ⟨l0, hl0⟩ := open_bytes Tryz.underlying22 Tryz.underlying5 (by kernel_rfl) (hval 0 22 v0 rfl rfl) h0
  obtain ⟨l1, hl1⟩ := open_bytes Tryz.underlying22 Tryz.underlying5 (by kernel_rfl) (hval 1 22 v1 rfl rfl) h1
  refine ((FnMonitorNoise_ok l0 l1).calls_true rfl W [v0, v1] (tabsW W hsh) (rel_two hl0 hl1)).mono fun e W' ⟨he, hb⟩ => ?_
  subst he
  have hlt : ∀ x ∈ p0 ++ p1, x.block < W.heap.size := fun x hx => by simpa using hW'.lt x hx
  have ha0 := Below.trod laidOut (by kernel_rfl) (of_decide_eq_true (by kernel_rfl)) h0 hb (fun x hx => hlt x (List.mem_append_left _ hx))
  have ha1 := Below.trod laidOut (by kernel_rfl) (of_decide_eq_true (by kernel_rfl)) h1 hb (fun x hx => hlt x (List.mem_append_right _ hx))
  exact ⟨_, rfl, ⟨_, _, _, [], _, [], hW', trodAll_mk1 (shut_bool Tryz.underlying4 _), trodAll_mk2 ha0 ha1, rfl, hb.frame _, fun h => by cases h⟩⟩

theorem closed : joinedFacts Tryz.prog 3 Tryz.f3 Rows.fnMonitorNoiseSpec Rows.fnMonitorNoiseRow = true := by
  have key : ∀ P : Program, P = Tryz.prog → P.mayEnter = true → P.liftsFinal = false → P.make = some .cut → joinedFacts P 3 Tryz.f3 Rows.fnMonitorNoiseSpec Rows.fnMonitorNoiseRow = true := by
    intro P hP h1 h2 h3
    unfold joinedFacts
    rw [h1, h2, h3]
    subst hP
    kernel_rfl
  exact key _ rfl enters finals makes

theorem proved : Rows.FnMonitorNoiseSaid :=
  OpenClaim.holds_of_wide 3 Tryz.f3 rfl rfl rfl rfl rfl rfl rfl ⟨rfl, rfl, rfl, rfl, rfl⟩ rfl rfl rfl rfl rfl (by kernel_rfl) Tryz.func3 closed
    (of_decide_eq_true (by kernel_rfl)) (by unfold Func.isWrapper; first | (rw [if_pos (by decide +kernel)]; kernel_rfl) | (rw [if_neg (by decide +kernel)]; exact ⟨rfl, rfl⟩))
    (fun os started H enc _ => lifted os started H enc)
end Go.Proofs.YtpcfbgeabehmbaaGreat.fnMonitorNoise
