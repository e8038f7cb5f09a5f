/-
  Messages: numbers of a serial kind, and the texts of messages by the program and by the reference.
-/
import Derived.Test.YtpiafiapjmldgaaDoorD1
namespace Go.Proofs.YtpiafiapjmldgaaDoor
set_option linter.all false
set_option maxRecDepth 20000
attribute [-simp] List.getD_eq_getElem?_getD

def inS (n : Int) : Bool := decide (0 ≤ n) && decide (n < 65536)

theorem l3Ok_ok (n : Int) : Fn Tryd.prog fn_spec_l3Ok [.int .i64 n] [] (.bool (inS n)) [] := by
  refine Fn.of_go ln_spec_l3Ok rfl ?_
  have h : inB n 0 65535 = inS n := by rw [Bool.eq_iff_iff]; simp [inB, inS]; omega
  simp [ac_spec_l3Ok]
  refine goCall_eq (l6In_ok _ _ _) (by simp) ?_
  simp [h]
  exact Ends.mk [] [] (by simp)

theorem serialOk_ok (n : Int) : Fn Tryd.prog fn_impl_serialOk [.int .i64 n] [] (.bool (inS n)) [] := by
  refine Fn.of_go ln_impl_serialOk rfl ?_
  simp [ac_impl_serialOk]
  refine goTest_dec (fun h => ?_) (fun h => ?_) <;> simp [h]
  · exact Ends.mk [] [] (by simp [inS, h])
  · exact Ends.mk [] [] (by simp [inS, h])

structure Msg where
  stream : Int
  ssn : Int
  loose : Bool
  text : List UInt8

def mV (m : Msg) : V := .agg [.int .i64 m.stream, .int .i64 m.ssn, .bool m.loose, .str m.text]

theorem itoa_dec (n : Nat) : Lib.itoa n = decS n := by
  have h : ∀ n, Lib.decDigits n = decS n := fun n => by
    induction n using Nat.strongRecOn with
    | _ n ih =>
      rw [Lib.decDigits, decS]
      split
      · rfl
      · rw [ih (n / 10) (by omega)]
  unfold Lib.itoa
  rw [if_neg (by omega), Int.toNat_natCast, h]

/-- The text of a message. -/
def msgT (m : Msg) : List UInt8 := if inS m.stream && inS m.ssn then decS m.stream.toNat ++ [32] ++ (if m.loose then [45] else decS m.ssn.toNat) ++ [32] ++ hexS m.text else []

theorem l42Message_ok (m : Msg) (h1 : inS m.stream = true) (h2 : inS m.ssn = true) (ht : m.text.length ≤ 10000000000) : Fn Tryd.prog fn_spec_l42Message [mV m] [] (.str (decS m.stream.toNat ++ [32] ++ (if m.loose then [45] else decS m.ssn.toNat) ++ [32] ++ hexS m.text)) [] := by
  refine Fn.of_go ln_spec_l42Message rfl ?_
  simp [inS] at h1 h2
  have hl := hexS_len m.text
  obtain ⟨a, ha⟩ := Int.eq_ofNat_of_zero_le h1.1
  obtain ⟨b, hb⟩ := Int.eq_ofNat_of_zero_le h2.1
  have a1 := decS_len20 (n := a) (by omega)
  have a2 := decS_len20 (n := b) (by omega)
  simp [ac_spec_l42Message, mV, ha, hb]
  refine goTest_bool (fun h3 => ?_) (fun h3 => ?_)
  · simp [h3]
    refine goDCall_eq (decPos_ok a (by omega) (by omega)) (by simp) (by simp) ?_
    simp
    refine ⟨by omega, goDCall_eq (l1Hex_ok m.text (by omega)) (by simp) (by simp) ?_⟩
    simp
    exact ⟨by omega, Ends.mk [] [] (by simp)⟩
  · simp [h3]
    refine goDCall_eq (decPos_ok a (by omega) (by omega)) (by simp) (by simp) ?_
    simp
    refine ⟨by omega, goDCall_eq (decPos_ok b (by omega) (by omega)) (by simp) (by simp) ?_⟩
    simp
    refine ⟨by omega, by omega, goDCall_eq (l1Hex_ok m.text (by omega)) (by simp) (by simp) ?_⟩
    simp
    exact ⟨by omega, Ends.mk [] [] (by simp)⟩

theorem spec_MessageText_ok (m : Msg) (ht : m.text.length ≤ 10000000000) : Fn Tryd.prog fn_spec_MessageText [mV m] [] (.str (msgT m)) [] := by
  refine Fn.of_go ln_spec_MessageText rfl ?_
  simp [ac_spec_MessageText, mV]
  refine goCall_eq (l3Ok_ok m.stream) (by simp) ?_
  simp
  refine goTest_bool (fun h1 => ?_) (fun h1 => ?_)
  · simp [h1]
    refine goCall_eq (l3Ok_ok m.ssn) (by simp) ?_
    simp
    refine goTest_bool (fun h2 => ?_) (fun h2 => ?_)
    · simp [h2]
      refine goCall_eq (l42Message_ok m h1 h2 ht) (by simp [mV]) ?_
      simp
      exact Ends.mk [] [] (by simp [msgT, h1, h2])
    · simp [h2]
      exact Ends.mk [] [] (by simp [msgT, h2])
  · simp [h1]
    exact Ends.mk [] [] (by simp [msgT, h1])

theorem impl_MessageText_ok (m : Msg) (ht : m.text.length ≤ 10000000000) : Fn Tryd.prog fn_impl_MessageText [mV m] [] (.str (msgT m)) [] := by
  refine Fn.of_go ln_impl_MessageText rfl ?_
  simp [ac_impl_MessageText, mV]
  refine goCall_eq (serialOk_ok m.stream) (by simp) ?_
  simp
  refine goTest_bool (fun h1 => ?_) (fun h1 => ?_)
  · simp [h1]
    refine goCall_eq (serialOk_ok m.ssn) (by simp) ?_
    simp
    refine goTest_bool (fun h2 => ?_) (fun h2 => ?_)
    · simp [h2]
      have q1 := h1
      have q2 := h2
      simp [inS] at q1 q2
      have hl := hexS_len m.text
      obtain ⟨a, ha⟩ := Int.eq_ofNat_of_zero_le q1.1
      obtain ⟨b, hb⟩ := Int.eq_ofNat_of_zero_le q2.1
      have a1 := decS_len20 (n := a) (by omega)
      have a2 := decS_len20 (n := b) (by omega)
      have i1 := Itoa_ok (a : Int) (by omega) (by omega)
      have i2 := Itoa_ok (b : Int) (by omega) (by omega)
      rw [itoa_dec] at i1 i2
      have g1 : inS (a : Int) = true := by rw [← ha]; exact h1
      have g2 : inS (b : Int) = true := by rw [← hb]; exact h2
      simp only [ha, hb]
      refine goCall_eq i2 (by simp) ?_
      simp
      refine goTest_bool (fun h3 => ?_) (fun h3 => ?_)
      · simp [h3]
        refine goDCall_eq i1 (by simp) (by simp) ?_
        simp
        refine ⟨by omega, by omega, by omega, goDCall_eq (hexOf_ok m.text (by omega)) (by simp) (by simp) ?_⟩
        simp
        exact ⟨by omega, Ends.mk [] [] (by simp [msgT, h3, ha, hb, g1, g2])⟩
      · simp [h3]
        refine goDCall_eq i1 (by simp) (by simp) ?_
        simp
        refine ⟨by omega, by omega, by omega, goDCall_eq (hexOf_ok m.text (by omega)) (by simp) (by simp) ?_⟩
        simp
        exact ⟨by omega, Ends.mk [] [] (by simp [msgT, h3, ha, hb, g1, g2])⟩
    · simp [h2]
      exact Ends.mk [] [] (by simp [msgT, h2])
  · simp [h1]
    exact Ends.mk [] [] (by simp [msgT, h1])

theorem toMessage_ok (m : Msg) : Fn Tryd.prog fn_laws_toMessage [mV m] [] (mV m) [] := by
  refine Fn.of_go ln_laws_toMessage rfl ?_
  simp [ac_laws_toMessage, mV]
  exact Ends.mk [] [] (by simp)

theorem szMessage_ok (m : Msg) (n : Int) (hn : 0 ≤ n ∧ n < 1000000000000) (hl : (m.text.length : Int) ≤ 9223372036854775807) : Fn Tryd.prog fn_laws_szMessage [mV m, .int .i64 n] [] (.int .i64 (if n - m.text.length < 0 then -1 else n - m.text.length)) [] := by
  refine Fn.of_go ln_laws_szMessage rfl ?_
  simp [ac_laws_szMessage, mV]
  refine ⟨by omega, goTest_dec (fun h => ?_) (fun h => ?_)⟩
  · simp [h]
    exact Ends.mk [] [] (by simp)
  · simp [h]
    exact Ends.mk [] [] (by simp)

theorem SerialAdd_ok (a n : Int) (hn : 0 ≤ n ∧ n < 1000000000000) : Fn Tryd.prog fn_impl_SerialAdd [.int .i64 a, .int .i64 n] [] (.int .i64 (if inS a then (a + n) % 65536 else -1)) [] := by
  refine Fn.of_go ln_impl_SerialAdd rfl ?_
  simp [ac_impl_SerialAdd]
  refine goCall_eq (serialOk_ok a) (by simp) ?_
  simp
  refine goTest_bool (fun h => ?_) (fun h => ?_)
  · simp [h]
    have q1 := h
    simp [inS] at q1
    have e0 : n.tmod 65536 = n % 65536 := Int.tmod_eq_emod_of_nonneg (by omega)
    have e1 : (a + n % 65536).tmod 65536 = (a + n % 65536) % 65536 := Int.tmod_eq_emod_of_nonneg (by omega)
    have e2 : ((a + n % 65536) % 65536 + 65536).tmod 65536 = (a + n) % 65536 := by
      rw [Int.tmod_eq_emod_of_nonneg (by omega)]; omega
    rw [e0, e1]
    refine ⟨by omega, by omega, ?_⟩
    rw [e2]
    exact Ends.mk [] [] (by simp [h])
  · simp [h]
    exact Ends.mk [] [] (by simp [h])

theorem HexPut_ok (s : List UInt8) : Fn Tryd.prog fn_impl_HexPut [.str s] [] (.str (if s.length ≤ 40 then hexS s else [])) [] := by
  refine Fn.of_go ln_impl_HexPut rfl ?_
  simp [ac_impl_HexPut]
  refine goTest_dec (fun h => ?_) (fun h => ?_)
  · simp [h]
    exact Ends.mk [] [] (by simp; omega)
  · have h2 : s.length ≤ 40 := by omega
    simp [h]
    refine goCall_eq (hexOf_ok s (by omega)) (by simp) ?_
    simp
    exact Ends.mk [] [] (by simp [h2])

/-- A number that was drawn. -/
inductive IntR (src : List UInt8) (a k : Int) (lo hi : Int) : V → List (List V) → Prop
  | mk (n b : Int) (h : lo ≤ n ∧ n ≤ hi) (hb : a ≤ b ∧ b ≤ a + k) : IntR src a k lo hi (.int .i64 n) [[bsl src, .int .i64 b]]

theorem l91Word_ok (src : List UInt8) (a : Int) (h : 0 ≤ a ∧ a < 100000000) : ∃ R bo, IntR src a 4 (-1) 65791 R bo ∧
    Fn Tryd.prog fn_spec_l91Word [.ptr 1000 0] [[bsl src, .int .i64 a]] R bo := by
  refine Fx.of_go ln_spec_l91Word rfl ?_
  simp [ac_spec_l91Word, bsl]
  refine goPick (n := 12) (a := a) rfl (by omega) (by omega) fun r1 h1 => ?_
  simp
  refine goTest_dec (fun h2 => ?_) (fun h2 => ?_)
  · simp [h2]
    refine goPick (n := 6) (a := a + 1) rfl (by omega) (by omega) fun r2 hr => ?_
    have hr2 : r2 < 6 := by omega
    simp [hr2]
    have h3 : r2 = 0 ∨ r2 = 1 ∨ r2 = 2 ∨ r2 = 3 ∨ r2 = 4 ∨ r2 = 5 := by omega
    rcases h3 with rfl | rfl | rfl | rfl | rfl | rfl
    · simp
      exact ⟨_, _, .mk (-1) (a + 1 + 1) (by omega) (by omega), Ends.mk [] [(1000, 1000)] (by simp [bsl])⟩
    · simp
      exact ⟨_, _, .mk (0) (a + 1 + 1) (by omega) (by omega), Ends.mk [] [(1000, 1000)] (by simp [bsl])⟩
    · simp
      exact ⟨_, _, .mk (65535) (a + 1 + 1) (by omega) (by omega), Ends.mk [] [(1000, 1000)] (by simp [bsl])⟩
    · simp
      exact ⟨_, _, .mk (65536) (a + 1 + 1) (by omega) (by omega), Ends.mk [] [(1000, 1000)] (by simp [bsl])⟩
    · simp
      exact ⟨_, _, .mk (256) (a + 1 + 1) (by omega) (by omega), Ends.mk [] [(1000, 1000)] (by simp [bsl])⟩
    · simp
      exact ⟨_, _, .mk (255) (a + 1 + 1) (by omega) (by omega), Ends.mk [] [(1000, 1000)] (by simp [bsl])⟩
  simp [h2]
  refine goTest_dec (fun h3 => ?_) (fun h3 => ?_)
  · simp [h3]
    refine goPick (n := 6) (a := a + 1) rfl (by omega) (by omega) fun r2 hr => ?_
    simp
    exact ⟨by omega, _, _, .mk (65530 + (r2 : Int)) (a + 1 + 1) (by omega) (by omega), Ends.mk [] [(1000, 1000)] (by simp [bsl])⟩
  simp [h3]
  refine goTest_dec (fun h4 => ?_) (fun h4 => ?_)
  · simp [h4]
    refine goPick (n := 6) (a := a + 1) rfl (by omega) (by omega) fun r2 hr => ?_
    simp
    exact ⟨by omega, _, _, .mk (65530 + (r2 : Int)) (a + 1 + 1) (by omega) (by omega), Ends.mk [] [(1000, 1000)] (by simp [bsl])⟩
  simp [h4]
  refine goTest_dec (fun h5 => ?_) (fun h5 => ?_)
  · simp [h5]
    refine goPick (n := 256) (a := a + 1) rfl (by omega) (by omega) fun r2 hr => ?_
    simp
    refine ⟨by omega, goPick (n := 256) (a := a + 1 + 1) rfl (by omega) (by omega) fun r3 hr3 => ?_⟩
    simp
    exact ⟨by omega, _, _, .mk (256 * (r2 : Int) + (r3 : Int)) (a + 1 + 1 + 1) (by omega) (by omega), Ends.mk [] [(1000, 1000)] (by simp [bsl])⟩
  · simp [h5]
    refine goPick (n := 20) (a := a + 1) rfl (by omega) (by omega) fun r2 hr => ?_
    simp
    exact ⟨_, _, .mk (r2 : Int) (a + 1 + 1) (by omega) (by omega), Ends.mk [] [(1000, 1000)] (by simp [bsl])⟩

theorem l91Bytes_ok (src : List UInt8) (a : Int) (n : Nat) (hn : n ≤ 1000) (h : 0 ≤ a ∧ a < 100000000) : ∃ R bo, StrR src a (1 + 2 * n) n R bo ∧
    Fn Tryd.prog fn_spec_l91Bytes [.ptr 1000 0, .int .i64 n] [[bsl src, .int .i64 a]] R bo := by
  refine Fx.of_go ln_spec_l91Bytes rfl ?_
  simp [ac_spec_l91Bytes, bsl]
  refine ⟨by omega, goPick (a := a) rfl (by omega) (by omega) fun k hk => ?_⟩
  simp
  refine go_loop (fun x : Nat × List UInt8 × Int => { env := [(0, .ptr 1000 0), (5, .sl (some 0) 1 (x.2.1.map byteV)), (6, .int .i64 (k : Nat)), (7, .int .i64 (x.1 : Nat))], loc := [], box := [(1000, [bsl src, .int .i64 x.2.2])], stat := [(0, some (.own x.2.1.length 1))] })
    (fun x => x.1 ≤ k ∧ x.2.1.length = x.1 ∧ a ≤ x.2.2 ∧ x.2.2 ≤ a + 1 + 2 * x.1) (fun x => k - x.1) (0, [], a + 1) ⟨by omega, rfl, by simp; omega, by simp⟩ (Weak.of [(0, some 128, 0, 1)] [(1000, 1000)] (by simp [bsl])) ?_
  rintro ⟨i, l, b⟩ ⟨hi, hl, hb1, hb2⟩
  simp at hi hl hb1 hb2
  simp [bsl]
  refine goTest_dec (fun hlt => ?_) (fun hge => ?_)
  · simp [hlt]
    refine goPick (n := 16) (a := b) rfl (by omega) (by omega) fun r1 h1 => ?_
    simp
    refine goPick (n := 18) (a := b + 1) rfl (by omega) (by omega) fun r2 h2 => ?_
    obtain ⟨p, hp, hp2⟩ : ∃ p : Nat, (r1 : Int) * (r2 : Int) = p ∧ p ≤ 255 := ⟨r1 * r2, by simp, Nat.le_trans (Nat.mul_le_mul (show r1 ≤ 15 by omega) (show r2 ≤ 17 by omega)) (by decide)⟩
    have e5 : IntKind.u8.wrap (p : Int) = p := wrap_byte (by omega) (by omega)
    simp [hp, e5]
    refine ⟨by omega, by simp [roomOk]; omega, by omega, .mk (i + 1, l ++ [UInt8.ofNat p], b + 1 + 1) ⟨by simp; omega, by simp; omega, by simp; omega, by simp; omega⟩ (by simp; omega) (Weak.of [(0, some 0, l.length + 1, 1)] [(1000, 1000)] (by simp [bsl]; omega))⟩
  · simp [hge, bytesOf_map]
    exact ⟨_, _, .mk l b (by omega) (by omega), Ends.mk [] [(1000, 1000)] (by simp [bsl])⟩

/-- A message that was drawn. -/
inductive MsgR : V → List (List V) → Prop
  | mk (m : Msg) (h : m.text.length ≤ 8) (h2 : -1 ≤ m.ssn ∧ m.ssn ≤ 65791) (h3 : -1 ≤ m.stream ∧ m.stream ≤ 65791) : MsgR (mV m) []

theorem DrawMessageText_ok' (code : List UInt8) : ∃ R bo, MsgR R bo ∧ Fn Tryd.prog fn_spec_DrawMessageText [bsl code] [] R bo := by
  refine Fx.of_go ln_spec_DrawMessageText rfl ?_
  obtain ⟨src, ho⟩ : ∃ s, Fn Tryd.prog fn_spec_l6Open [bsl code] [] (.ptr 1000 0) [[bsl s, .int .i64 0]] := ⟨_, open_ok code⟩
  simp [ac_spec_DrawMessageText]
  refine goCall_gen [] [] [] [] (some 1000) ho (by simp [bsl]) ?_
  simp [bsl]
  obtain ⟨_, _, ⟨n, b, hn, hb⟩, f1⟩ := l91Word_ok src 0 (by omega)
  refine goCall_gen [] [(1000, 6)] [] [] none f1 (by simp [bsl]) ?_
  simp [bsl]
  obtain ⟨_, _, ⟨k, c, hk, hc⟩, f2⟩ := l91Word_ok src b (by omega)
  refine goCall_gen [] [(1000, 6)] [] [] none f2 (by simp [bsl]) ?_
  simp [bsl]
  obtain ⟨_, _, ⟨t, d, ht, hd⟩, f3⟩ := l91Bytes_ok src c 8 (by omega) (by omega)
  refine goCall_gen [] [(1000, 6)] [] [] none f3 (by simp [bsl]) ?_
  simp [bsl]
  refine goPick (n := 3) (a := d) rfl (by omega) (by omega) fun r1 h1 => ?_
  simp
  exact ⟨_, _, .mk ⟨n, k, decide (r1 = 0), t⟩ ht hk hn, Ends.mk [] [] (by simp [mV])⟩

theorem DrawMessageText_ok (code : List UInt8) : ∃ m : Msg, m.text.length ≤ 8 ∧ (-1 ≤ m.ssn ∧ m.ssn ≤ 65791) ∧ (-1 ≤ m.stream ∧ m.stream ≤ 65791) ∧ Fn Tryd.prog fn_spec_DrawMessageText [bsl code] [] (mV m) [] := by
  obtain ⟨_, _, ⟨m, h1, h2, h3⟩, f⟩ := DrawMessageText_ok' code
  exact ⟨m, h1, h2, h3, f⟩

end Go.Proofs.YtpiafiapjmldgaaDoor
