/-
  Which chunks are alone; which bodies are valid; and bodies that are read.
  Receipts that are valid; bodies that are read and written.
  Receipts that are read; bodies that are written.
  Bodies that are written.
  Parts that follow each other, sides and associations that are valid.
-/
import Derived.Test.YtjkbbdmkgealfaaGreatDoorQ19
namespace Go.Proofs.YtjkbbdmkgealfaaGreatDoor
set_option linter.all false
section
set_option maxRecDepth 20000
attribute [-simp] List.getD_eq_getElem?_getD
theorem impl_PacketAlone_ok (p : Packet) (hl : p.chunks.length ≤ 1000000) : Fn Tryz.prog fn_impl_PacketAlone [p.v] [] (.bool p.alone) [] := by
  refine Fn.of_go ln_impl_PacketAlone rfl ?_
  simp [ac_impl_PacketAlone, Packet.v, Packet.cells, csl]
  refine goCall_eq (impl_PacketValid_ok p hl) (by simp [Packet.v, Packet.cells, csl]) ?_
  simp
  refine goTest_bool (fun h => ?_) (fun h => ?_)
  rotate_left
  · simp [h]
    exact Ends.mk [] [] (by simp [Packet.alone, h])
  simp [h]
  refine goTest_dec (fun h1 => ?_) (fun h1 => ?_)
  · simp [h1]
    exact Ends.mk [] [] (by simp [Packet.alone, h, h1])
  simp [h1]
  have hlen : 1 < p.chunks.length := by
    have := h
    rw [Packet.ok_eq] at this
    simp [Packet.head] at this
    omega
  refine go_loop (fun i => { env := [(13, csl p.chunks), (14, .int .i64 (p.chunks.length : Nat)), (15, .int .i64 (i : Nat))], loc := [], box := [], stat := [] }) (fun i => i ≤ p.chunks.length ∧ AllTake (fun c => !aloneK c.kind) p.chunks i) (fun i => p.chunks.length - i) 0 ⟨by omega, .zero⟩ (Weak.of [] [] (by simp [csl])) ?_
  rintro i ⟨hi, hp⟩
  simp [csl]
  refine goTest_dec (fun hlt => ?_) (fun hge => ?_)
  · simp [hlt, Chunk.v, Chunk.cells]
    generalize hx : nth p.chunks i = x at *
    have hbad : aloneK x.kind = true → p.alone = false := fun q => by
      have := all_false (p := fun c : Chunk => !aloneK c.kind) hlt (by rw [hx, q]; rfl)
      simp [Packet.alone, this]; omega
    have hgood : aloneK x.kind = false → AllTake (fun c => !aloneK c.kind) p.chunks (i + 1) := fun q => hp.succ hlt (by rw [hx, q]; rfl)
    repeat' (first
      | (refine goTest_dec (fun h => ?_) (fun h => ?_) <;> simp [h])
      | (refine And.intro (by omega) ?_)
      | exact Again.mk (i + 1) ⟨hlt, hgood (by simp [aloneK, *])⟩ (by omega) (Weak.of [] [] (by simp [csl]))
      | exact Ends.mk [] [] (by simp [hbad (by simp [aloneK, *])]))
  · obtain rfl : i = p.chunks.length := by omega
    simp
    exact Ends.mk [] [] (by simp [Packet.alone, hp.all, h])
theorem spec_PacketAlone_ok (p : Packet) (hl : p.chunks.length ≤ 1000000) : Fn Tryz.prog fn_spec_PacketAlone [p.v] [] (.bool p.alone) [] := by
  refine Fn.of_go ln_spec_PacketAlone rfl ?_
  simp [ac_spec_PacketAlone, Packet.v, Packet.cells, csl]
  refine go_loop (fun i => { env := [(1, .ptr 1 0), (3, .int .i64 (i : Nat))], loc := [], box := [(1, p.cells)], stat := [] }) (fun i => i ≤ p.chunks.length ∧ AllTake (fun c => !aloneK c.kind || decide (p.chunks.length ≤ 1)) p.chunks i) (fun i => p.chunks.length - i) 0 ⟨by omega, .zero⟩ (Weak.of [] [(1, 1)] (by simp [Packet.cells, csl])) ?_
  rintro i ⟨hi, hp⟩
  simp [Packet.cells, csl]
  refine goTest_dec (fun hlt => ?_) (fun hge => ?_)
  · simp [hlt, Chunk.v, Chunk.cells]
    generalize hx : nth p.chunks i = x at *
    refine goCall_eq (l13Alone_ok x.kind) (by simp) ?_
    simp
    refine goTest_bool (fun h1 => ?_) (fun h1 => ?_)
    · simp [h1]
      refine goTest_dec (fun h2 => ?_) (fun h2 => ?_)
      · have := all_false (p := fun c : Chunk => !aloneK c.kind) hlt (by rw [hx, h1]; rfl)
        simp [h2]
        exact Ends.mk [] [] (by simp [Packet.alone, this]; omega)
      · simp [h2]
        exact ⟨by omega, .mk (i + 1) ⟨hlt, hp.succ hlt (by simp; omega)⟩ (by omega) (Weak.of [] [(1, 1)] (by simp [Packet.cells, csl]))⟩
    · simp [h1]
      exact ⟨by omega, .mk (i + 1) ⟨hlt, hp.succ hlt (by rw [hx, h1]; rfl)⟩ (by omega) (Weak.of [] [(1, 1)] (by simp [Packet.cells, csl]))⟩
  · obtain rfl : i = p.chunks.length := by omega
    have hp := hp.all
    simp
    refine goCall_eq (spec_PacketValid_ok p hl) (by simp [Packet.v, Packet.cells, csl]) ?_
    simp
    have : p.alone = p.ok := by
      unfold Packet.alone
      by_cases q : p.chunks.length ≤ 1
      · simp [q]
      · have : (p.chunks.all fun c => !aloneK c.kind) = true := by simpa [q] using hp
        simp [this]
    exact Ends.mk [] [] (by simp [this])
theorem dataOk_ok (d : Part) : Fn Tryz.prog fn_impl_dataOk [d.v] [] (.bool d.ok) [] := by
  refine Fn.of_go ln_impl_dataOk rfl ?_
  simp [ac_impl_dataOk, Part.v, Part.cells]
  repeat' (first
    | (refine goTest_dec (fun h => ?_) (fun h => ?_) <;> simp [h])
    | (refine goTest_bool (fun h => ?_) (fun h => ?_) <;> simp [h])
    | (refine goCall_eq (serialOk_ok _) (by simp) ?_; simp)
    | exact Ends.mk [] [] (by simp [Part.ok, inB, *] <;> omega))
theorem l12Data_ok (d : Part) : Fn Tryz.prog fn_spec_l12Data [d.v] [] (.bool d.ok) [] := by
  refine Fn.of_go ln_spec_l12Data rfl ?_
  simp [ac_spec_l12Data, Part.v, Part.cells]
  repeat' (first
    | (refine goTest_dec (fun h => ?_) (fun h => ?_) <;> simp [h])
    | (refine goTest_bool (fun h => ?_) (fun h => ?_) <;> simp [h])
    | (refine goCall_eq (l3Ok_ok _) (by simp) ?_; simp)
    | (refine goCall_eq (l6In_ok _ _ _) (by simp) ?_; simp)
    | exact Ends.mk [] [] (by simp [Part.ok, *]))
theorem initOk_ok (x : Hello) : Fn Tryz.prog fn_impl_initOk [x.v] [] (.bool x.ok) [] := by
  refine Fn.of_go ln_impl_initOk rfl ?_
  have hw : inB x.window 0 65535 = inS x.window := by rw [Bool.eq_iff_iff]; simp [inB, inS]; omega
  simp [ac_impl_initOk, Hello.v, Hello.cells]
  repeat' (first
    | (refine goTest_dec (fun h => ?_) (fun h => ?_) <;> simp [h])
    | (refine goTest_bool (fun h => ?_) (fun h => ?_) <;> simp [h])
    | (refine goCall_eq (serialOk_ok _) (by simp) ?_; simp)
    | exact Ends.mk [] [] (by simp only [Hello.ok, hw]; simp [inB, *] <;> omega))
theorem l12Init_ok (x : Hello) : Fn Tryz.prog fn_spec_l12Init [x.v] [] (.bool x.ok) [] := by
  refine Fn.of_go ln_spec_l12Init rfl ?_
  simp [ac_spec_l12Init, Hello.v, Hello.cells]
  repeat' (first
    | (refine goTest_dec (fun h => ?_) (fun h => ?_) <;> simp [h])
    | (refine goTest_bool (fun h => ?_) (fun h => ?_) <;> simp [h])
    | (refine goCall_eq (l3Ok_ok _) (by simp) ?_; simp)
    | (refine goCall_eq (l6In_ok _ _ _) (by simp) ?_; simp)
    | exact Ends.mk [] [] (by simp [Hello.ok, *]))
end
section
set_option maxRecDepth 200000
attribute [-simp] List.getD_eq_getElem?_getD
theorem gaps_step {l : Int} {gs : List (Int × Int)} {i : Nat} (h : i < gs.length) : gapsOk l (gs.drop i) = (decide (l + 2 ≤ (nth gs i).1) && decide ((nth gs i).1 ≤ (nth gs i).2) && decide ((nth gs i).2 ≤ 16) && gapsOk (nth gs i).2 (gs.drop (i + 1))) := by
  rw [drop_nth h]; rfl
theorem impl_sackOk_ok (x : Sack) (hl : x.gaps.length ≤ 1000000) : Fn Tryz.prog fn_impl_sackOk [x.v] [] (.bool x.ok) [] := by
  refine Fn.of_go ln_impl_sackOk rfl ?_
  simp [ac_impl_sackOk, Sack.v, Sack.cells]
  refine goCall_eq (serialOk_ok _) (by simp) ?_
  simp
  refine goTest_bool (fun h1 => ?_) (fun h1 => ?_)
  rotate_left
  · simp [h1]
    exact Ends.mk [] [] (by simp [Sack.ok, h1])
  simp [h1]
  refine goTest_dec (fun h2 => ?_) (fun h2 => ?_)
  · simp [h2]
    exact Ends.mk [] [] (by simp [Sack.ok, h1]; omega)
  simp [h2]
  refine go_loop (fun y : Nat × Int => { env := [(17, .sl none 2 (x.gaps.map gV)), (18, .int .i64 (x.gaps.length : Nat)), (19, .int .i64 (y.1 : Nat)), (3, .int .i64 (y.2 + 2))], loc := [], box := [], stat := [] })
    (fun y => y.1 ≤ x.gaps.length ∧ (0 ≤ y.2 ∧ y.2 ≤ 16) ∧ gapsOk 0 x.gaps = gapsOk y.2 (x.gaps.drop y.1)) (fun y => x.gaps.length - y.1) (0, 0) ⟨by omega, by simp, rfl⟩ (Weak.of [] [] (by simp)) ?_
  rintro ⟨i, l⟩ ⟨hi, hl, hg⟩
  simp at hi hl hg
  simp
  refine goTest_dec (fun hlt => ?_) (fun hge => ?_)
  · rw [gaps_step hlt] at hg
    simp [hlt, gV]
    generalize nth x.gaps i = g at *
    repeat' (first
      | (refine goTest_dec (fun h => ?_) (fun h => ?_) <;> simp [h])
      | (refine And.intro (by omega) ?_)
      | exact Again.mk (i + 1, g.2) ⟨hlt, by simp; omega, by rw [hg]; simp; omega⟩ (by simp; omega) (Weak.of [] [] (by simp))
      | exact Ends.mk [] [] (by simp [Sack.ok, hg]; omega))
  · obtain rfl : i = x.gaps.length := by omega
    simp
    simp [gapsOk] at hg
    exact Ends.mk [] [] (by simp [Sack.ok, hg, h1]; omega)
theorem l12Sack_ok (x : Sack) (hl : x.gaps.length ≤ 1000000) : Fn Tryz.prog fn_spec_l12Sack [x.v] [] (.bool x.ok) [] := by
  refine Fn.of_go ln_spec_l12Sack rfl ?_
  simp [ac_spec_l12Sack, Sack.v, Sack.cells]
  refine go_loop (fun y : Nat × Int => { env := [(1, .ptr 1 0), (4, .int .i64 (y.1 : Nat)), (3, .int .i64 y.2)], loc := [], box := [(1, x.cells)], stat := [] })
    (fun y => y.1 ≤ x.gaps.length ∧ (0 ≤ y.2 ∧ y.2 ≤ 16) ∧ gapsOk 0 x.gaps = gapsOk y.2 (x.gaps.drop y.1)) (fun y => x.gaps.length - y.1) (0, 0) ⟨by omega, by simp, rfl⟩ (Weak.of [] [(1, 1)] (by simp [Sack.cells])) ?_
  rintro ⟨i, l⟩ ⟨hi, hl, hg⟩
  simp at hi hl hg
  simp [Sack.cells]
  refine goTest_dec (fun hlt => ?_) (fun hge => ?_)
  · rw [gaps_step hlt] at hg
    simp [hlt, gV]
    generalize nth x.gaps i = g at *
    repeat' (first
      | (refine goTest_dec (fun h => ?_) (fun h => ?_) <;> simp [h])
      | (refine And.intro (by omega) ?_)
      | exact Again.mk (i + 1, g.2) ⟨hlt, by simp; omega, by rw [hg]; simp; omega⟩ (by simp; omega) (Weak.of [] [(1, 1)] (by simp [Sack.cells]))
      | exact Ends.mk [] [] (by simp [Sack.ok, hg]; omega))
  · obtain rfl : i = x.gaps.length := by omega
    simp
    simp [gapsOk] at hg
    repeat' (first
      | (refine goTest_dec (fun h => ?_) (fun h => ?_) <;> simp [h])
      | (refine goTest_bool (fun h => ?_) (fun h => ?_) <;> simp [h])
      | (refine goCall_eq (l3Ok_ok _) (by simp) ?_; simp)
      | exact Ends.mk [] [] (by simp [Sack.ok, hg, *]))
def optV (z : V) {α : Type} (f : α → V) : Option α → V
  | some x => .tup [f x, .bool true]
  | none => .tup [z, .bool false]
theorem and2 (n : Nat) (h : n ≤ 7) : bitsV .and .i64 (n : Int) 2 = 2 * ((n / 2 % 2 : Nat) : Int) ∧ bitsV .and .i64 (n : Int) 1 = ((n % 2 : Nat) : Int) ∧ bitsV .and .i64 (n : Int) 4 = 4 * ((n / 4 : Nat) : Int) := by
  have : ∀ k : Fin 8, bitsV .and .i64 (k.val : Int) 2 = 2 * ((k.val / 2 % 2 : Nat) : Int) ∧ bitsV .and .i64 (k.val : Int) 1 = ((k.val % 2 : Nat) : Int) ∧ bitsV .and .i64 (k.val : Int) 4 = 4 * ((k.val / 4 : Nat) : Int) := by decide +kernel
  exact this ⟨n, by omega⟩
theorem at16_lt (s : List UInt8) (i : Nat) : 0 ≤ at16 s i ∧ at16 s i < 65536 := by
  have u0 := (nth s i).toNat_lt
  have u1 := (nth s (i + 1)).toNat_lt
  unfold at16; omega
theorem part_v (c : Chunk) : c.part.v = .agg [.int .i64 (at16 c.body 0), .int .i64 (at16 c.body 2), .int .i64 (at16 c.body 4), .bool (decide (c.flags / 2 % 2 = 1)), .bool (decide (c.flags % 2 = 1)), .bool (decide (c.flags / 4 = 1)), .str (c.body.drop 6)] := rfl
theorem hello_v (c : Chunk) : c.hello.v = .agg [.int .i64 (at32 c.body 0), .int .i64 (at16 c.body 4), .int .i64 (at16 c.body 6), .int .i64 (at16 c.body 8)] := rfl
theorem zPart_v : zPart.v = .agg [.int .i64 0, .int .i64 0, .int .i64 0, .bool false, .bool false, .bool false, .str []] := rfl
theorem zHello_v : zHello.v = .agg [.int .i64 0, .int .i64 0, .int .i64 0, .int .i64 0] := rfl
theorem impl_DataGet_ok (c : Chunk) (hb : c.body.length ≤ 1000000) : Fn Tryz.prog fn_impl_DataGet [c.v] [] (optV zPart.v Part.v (getPart c)) [] := by
  refine Fn.of_go ln_impl_DataGet rfl ?_
  have fd := dataOk_ok c.part
  rw [part_v] at fd
  simp [ac_impl_DataGet, Chunk.v, Chunk.cells]
  have hno : ¬ (c.kind = 0 ∧ 0 ≤ c.flags ∧ c.flags ≤ 7 ∧ 6 ≤ c.body.length) → getPart c = none := fun q => by unfold getPart; rw [if_neg q]
  repeat' (first
    | (refine goTest_dec (fun h => ?_) (fun h => ?_) <;> simp [h])
    | exact Ends.mk [] [] (by simp [hno (by omega), optV, zPart_v]))
  obtain ⟨n, hn⟩ := Int.eq_ofNat_of_zero_le (show 0 ≤ c.flags by omega)
  obtain ⟨a1, a2, a3⟩ := and2 n (by omega)
  have f1 : (!decide (bitsV .and .i64 c.flags 2 = 0)) = decide (c.flags / 2 % 2 = 1) := by rw [hn, a1, Bool.eq_iff_iff]; simp; omega
  have f2 : (!decide (bitsV .and .i64 c.flags 1 = 0)) = decide (c.flags % 2 = 1) := by rw [hn, a2, Bool.eq_iff_iff]; simp; omega
  have f3 : (!decide (bitsV .and .i64 c.flags 4 = 0)) = decide (c.flags / 4 = 1) := by rw [hn, a3, Bool.eq_iff_iff]; simp; omega
  simp only [f1, f2, f3]
  have hyes : getPart c = if c.part.ok then some c.part else none := by unfold getPart; rw [if_pos (by omega)]
  refine ⟨by omega, goCall_eq (WordGet_ok c.body 0 (by omega) (by omega)) (by simp) ?_⟩
  simp
  refine goCall_eq (WordGet_ok c.body 2 (by omega) (by omega)) (by simp) ?_
  simp
  refine goCall_eq (WordGet_ok c.body 4 (by omega) (by omega)) (by simp) ?_
  simp
  refine goCall_eq fd (by simp) ?_
  simp
  cases h : c.part.ok with
  | true =>
    simp
    exact Ends.mk [] [] (by simp [hyes, h, optV, part_v])
  | false =>
    simp
    exact Ends.mk [] [] (by simp [hyes, h, optV, zPart_v])
theorem spec_DataGet_ok (c : Chunk) (hb : c.body.length ≤ 1000000) : Fn Tryz.prog fn_spec_DataGet [c.v] [] (optV zPart.v Part.v (getPart c)) [] := by
  refine Fn.of_go ln_spec_DataGet rfl ?_
  have fd2 := l12Data_ok c.part
  rw [part_v] at fd2
  simp [ac_spec_DataGet, Chunk.v, Chunk.cells]
  have hno : ¬ (c.kind = 0 ∧ (0 ≤ c.flags ∧ c.flags ≤ 7) ∧ 6 ≤ c.body.length) → getPart c = none := fun q => by unfold getPart; rw [if_neg (by omega)]
  have hin : inB c.flags 0 7 = decide (0 ≤ c.flags ∧ c.flags ≤ 7) := by rw [Bool.eq_iff_iff]; simp [inB]
  repeat' (first
    | (refine goTest_dec (fun h => ?_) (fun h => ?_) <;> simp [h])
    | (refine goCall_eq (l6In_ok _ _ _) (by simp) ?_; simp [hin, -Bool.decide_and])
    | exact Ends.mk [] [] (by simp [hno (by omega), optV, zPart_v]))
  have hyes : getPart c = if c.part.ok then some c.part else none := by unfold getPart; rw [if_pos (by omega)]
  refine goDCall_eq (l1At_ok c.body 0 (by omega) (by omega)) (by simp) (by simp) ?_
  simp
  refine goDCall_eq (l1At_ok c.body 2 (by omega) (by omega)) (by simp) (by simp) ?_
  simp
  refine goDCall_eq (l1At_ok c.body 4 (by omega) (by omega)) (by simp) (by simp) ?_
  simp
  have t1 : c.flags.tmod 2 = c.flags % 2 := tmod_pos (by omega)
  have t2 : c.flags.tdiv 2 = c.flags / 2 := tdiv_pos (by omega)
  have t3 : (c.flags / 2).tmod 2 = c.flags / 2 % 2 := tmod_pos (by omega)
  have t4 : c.flags.tdiv 4 = c.flags / 4 := tdiv_pos (by omega)
  simp only [t1, t2, t3, t4]
  refine ⟨by omega, by omega, by omega, goCall_eq fd2 (by simp) ?_⟩
  simp
  cases h : c.part.ok with
  | true =>
    simp
    exact Ends.mk [] [] (by simp [hyes, h, optV, part_v])
  | false =>
    simp
    exact Ends.mk [] [] (by simp [hyes, h, optV, zPart_v])
theorem impl_InitGet_ok (c : Chunk) (hb : c.body.length ≤ 1000000) : Fn Tryz.prog fn_impl_InitGet [c.v] [] (optV zHello.v Hello.v (getHello c)) [] := by
  refine Fn.of_go ln_impl_InitGet rfl ?_
  have fd := initOk_ok c.hello
  rw [hello_v] at fd
  simp [ac_impl_InitGet, Chunk.v, Chunk.cells]
  have hno : ¬ ((c.kind = 1 ∨ c.kind = 2) ∧ c.flags = 0 ∧ c.body.length = 10) → getHello c = none := fun q => by unfold getHello; rw [if_neg q]
  have hyes : ((c.kind = 1 ∨ c.kind = 2) ∧ c.flags = 0 ∧ c.body.length = 10) → getHello c = if c.hello.ok then some c.hello else none := fun q => by unfold getHello; rw [if_pos q]
  repeat' (first
    | (refine goTest_dec (fun h => ?_) (fun h => ?_) <;> simp [h])
    | (refine goTest_bool (fun h => ?_) (fun h => ?_) <;> simp [h])
    | (refine goCall_eq (LongGet_ok c.body 0 (by omega) (by omega)) (by simp) ?_; simp)
    | (refine goCall_eq (WordGet_ok c.body 4 (by omega) (by omega)) (by simp) ?_; simp)
    | (refine goCall_eq (WordGet_ok c.body 6 (by omega) (by omega)) (by simp) ?_; simp)
    | (refine goCall_eq (WordGet_ok c.body 8 (by omega) (by omega)) (by simp) ?_; simp)
    | (refine goCall_eq fd (by simp) ?_; simp)
    | (refine Ends.mk [] [] ?_; simp [hno (by omega), optV, zHello_v] <;> fail)
    | (refine Ends.mk [] [] ?_; simp [hyes (by omega), h, optV, zHello_v, hello_v, at32] <;> fail))
theorem spec_InitGet_ok (c : Chunk) (hb : c.body.length ≤ 1000000) : Fn Tryz.prog fn_spec_InitGet [c.v] [] (optV zHello.v Hello.v (getHello c)) [] := by
  refine Fn.of_go ln_spec_InitGet rfl ?_
  have fd := l12Init_ok c.hello
  rw [hello_v] at fd
  simp [ac_spec_InitGet, Chunk.v, Chunk.cells]
  have hno : ¬ ((c.kind = 1 ∨ c.kind = 2) ∧ c.flags = 0 ∧ c.body.length = 10) → getHello c = none := fun q => by unfold getHello; rw [if_neg q]
  have hyes : ((c.kind = 1 ∨ c.kind = 2) ∧ c.flags = 0 ∧ c.body.length = 10) → getHello c = if c.hello.ok then some c.hello else none := fun q => by unfold getHello; rw [if_pos q]
  have b0 := at16_lt c.body 0
  have b2 := at16_lt c.body 2
  repeat' (first
    | (refine goTest_dec (fun h => ?_) (fun h => ?_) <;> simp [h])
    | (refine goTest_bool (fun h => ?_) (fun h => ?_) <;> simp [h])
    | (refine goDCall_eq (l1At_ok c.body 0 (by omega) (by omega)) (by simp) (by simp) ?_; simp)
    | (refine goDCall_eq (l1At_ok c.body 2 (by omega) (by omega)) (by simp) (by simp) ?_; simp)
    | (refine goDCall_eq (l1At_ok c.body 4 (by omega) (by omega)) (by simp) (by simp) ?_; simp)
    | (refine goDCall_eq (l1At_ok c.body 6 (by omega) (by omega)) (by simp) (by simp) ?_; simp)
    | (refine goDCall_eq (l1At_ok c.body 8 (by omega) (by omega)) (by simp) (by simp) ?_; simp)
    | (refine goCall_eq fd (by simp) ?_; simp)
    | (refine And.intro (by omega) ?_)
    | (refine Ends.mk [] [] ?_; simp [hno (by omega), optV, zHello_v] <;> fail)
    | (refine Ends.mk [] [] ?_; simp [hyes (by omega), h, optV, zHello_v, hello_v, at32] <;> fail))
end
section
set_option maxRecDepth 200000
attribute [-simp] List.getD_eq_getElem?_getD
theorem gapsAt_snoc (s : List UInt8) : ∀ (n i : Nat), gapsAt s i (n + 1) = gapsAt s i n ++ [(at16 s (i + 4 * n), at16 s (i + 4 * n + 2))]
  | 0, i => rfl
  | n + 1, i => by
    have ih := gapsAt_snoc s n (i + 4)
    have e : i + 4 + 4 * n = i + 4 * (n + 1) := by omega
    rw [gapsAt, ih, e]; rfl
theorem gapsAt_len (s : List UInt8) : ∀ (n i : Nat), (gapsAt s i n).length = n
  | 0, _ => rfl
  | n + 1, i => by simp [gapsAt, gapsAt_len s n]
theorem sack_v (c : Chunk) : c.sack.v = .agg [.int .i64 (at16 c.body 0), .sl none 2 ((gapsAt c.body 2 (c.body.length / 4)).map gV)] := rfl
theorem zSack_v : zSack.v = .agg [.int .i64 0, .sl none 2 []] := rfl
theorem impl_SackGet_ok (c : Chunk) (hb : c.body.length ≤ 1000000) : Fn Tryz.prog fn_impl_SackGet [c.v] [] (optV zSack.v Sack.v (getSack c)) [] := by
  refine Fn.of_go ln_impl_SackGet rfl ?_
  have fd := impl_sackOk_ok c.sack (by simp [Chunk.sack, gapsAt_len]; omega)
  rw [sack_v] at fd
  have hno : ¬ (c.kind = 3 ∧ c.flags = 0 ∧ c.body.length % 4 = 2) → getSack c = none := fun q => by unfold getSack; rw [if_neg q]
  have tm : (c.body.length : Int).tmod 4 = ((c.body.length % 4 : Nat) : Int) := tmod_pos (by omega)
  simp [ac_impl_SackGet, Chunk.v, Chunk.cells, tm, -Int.natCast_emod]
  repeat' (first
    | (refine goTest_dec (fun h => ?_) (fun h => ?_) <;> simp [h, tm, -Int.natCast_emod])
    | (refine Ends.mk [] [] ?_; simp [hno (by omega), optV, zSack_v] <;> fail))
  rename_i h4
  have hyes : getSack c = if c.sack.ok then some c.sack else none := by unfold getSack; rw [if_pos (by omega)]
  refine goCall_eq (WordGet_ok c.body 0 (by omega) (by omega)) (by simp) ?_
  simp
  refine go_loop (fun i => { env := [(1, .ptr 1 0), (2, .ptr 2 0), (4, .ptr 4 0), (5, .int .i64 ((2 + 4 * i : Nat) : Int))], loc := [], box := [(4, [.int .i64 (at16 c.body 0), .sl (some 0) 2 ((gapsAt c.body 2 i).map gV)]), (2, [.int .i64 0, .nils]), (1, [.undef, .undef, .str c.body])], stat := [(0, some (.own i 2))] })
    (fun i => i ≤ c.body.length / 4) (fun i => c.body.length / 4 - i) 0 (by omega) (Weak.of [(0, none, 0, 2)] [(1, 1), (2, 2), (4, 4)] (by simp [Chunk.cells, gapsAt])) ?_
  intro i hi
  simp
  refine goTest_dec (fun hlt => ?_) (fun hge => ?_)
  · have w1 := WordGet_ok c.body (2 + 4 * i) (by omega) (by omega)
    have w2 := WordGet_ok c.body (2 + 4 * i + 2) (by omega) (by omega)
    rw [show ((2 + 4 * i : Nat) : Int) = 2 + 4 * (i : Int) by omega] at w1
    rw [show ((2 + 4 * i + 2 : Nat) : Int) = 2 + 4 * (i : Int) + 2 by omega] at w2
    have hs := gapsAt_snoc c.body i 2
    have hgl := gapsAt_len c.body i 2
    simp [hlt]
    refine goCall_eq w1 (by simp) ?_
    simp
    refine ⟨by omega, goCall_eq w2 (by simp) ?_⟩
    simp [hgl]
    refine ⟨by simp [roomOk]; omega, by omega, .mk (i + 1) (by omega) (by omega) (Weak.of [(0, some 0, i + 1, 2)] [(1, 1), (2, 2), (4, 4)] (by simp [hs, gV]; omega))⟩
  · obtain rfl : i = c.body.length / 4 := by omega
    simp [hge]
    refine goCall_gen [] [] [] [0] none fd (by simp [gapsAt_len]) ?_
    simp
    cases h : c.sack.ok with
    | true =>
      simp
      exact Ends.mk [] [] (by simp [hyes, h, optV, sack_v])
    | false =>
      simp
      exact Ends.mk [] [] (by simp [hyes, h, optV, zSack_v])
theorem spec_SackGet_ok (c : Chunk) (hb : c.body.length ≤ 1000000) : Fn Tryz.prog fn_spec_SackGet [c.v] [] (optV zSack.v Sack.v (getSack c)) [] := by
  refine Fn.of_go ln_spec_SackGet rfl ?_
  have fd := l12Sack_ok c.sack (by simp [Chunk.sack, gapsAt_len]; omega)
  rw [sack_v] at fd
  have hno : ¬ (c.kind = 3 ∧ c.flags = 0 ∧ c.body.length % 4 = 2) → getSack c = none := fun q => by unfold getSack; rw [if_neg q]
  have tm : (c.body.length : Int).tmod 4 = ((c.body.length % 4 : Nat) : Int) := tmod_pos (by omega)
  simp [ac_spec_SackGet, Chunk.v, Chunk.cells, tm, -Int.natCast_emod]
  repeat' (first
    | (refine goTest_dec (fun h => ?_) (fun h => ?_) <;> simp [h, tm, -Int.natCast_emod])
    | (refine Ends.mk [] [] ?_; simp [hno (by omega), optV, zSack_v] <;> fail))
  rename_i h4
  have hyes : getSack c = if c.sack.ok then some c.sack else none := by unfold getSack; rw [if_pos (by omega)]
  refine goCall_eq (l1At_ok c.body 0 (by omega) (by omega)) (by simp) ?_
  simp
  refine go_loop (fun i => { env := [(1, .ptr 1 0), (2, .ptr 2 0), (4, .ptr 4 0), (5, .int .i64 ((2 + 4 * i : Nat) : Int))], loc := [], box := [(4, [.int .i64 (at16 c.body 0), .sl (some 0) 2 ((gapsAt c.body 2 i).map gV)]), (2, [.int .i64 0, .nils]), (1, [.undef, .undef, .str c.body])], stat := [(0, some (.own i 2))] })
    (fun i => i ≤ c.body.length / 4) (fun i => c.body.length / 4 - i) 0 (by omega) (Weak.of [(0, some 400, 0, 2)] [(1, 1), (2, 2), (4, 4)] (by simp [Chunk.cells, gapsAt])) ?_
  intro i hi
  simp
  refine goTest_dec (fun hlt => ?_) (fun hge => ?_)
  · have w1 := l1At_ok c.body (2 + 4 * i) (by omega) (by omega)
    have w2 := l1At_ok c.body (2 + 4 * i + 2) (by omega) (by omega)
    rw [show ((2 + 4 * i : Nat) : Int) = 2 + 4 * (i : Int) by omega] at w1
    rw [show ((2 + 4 * i + 2 : Nat) : Int) = 2 + 4 * (i : Int) + 2 by omega] at w2
    have hs := gapsAt_snoc c.body i 2
    have hgl := gapsAt_len c.body i 2
    simp [hlt]
    refine goDCall_eq w1 (by simp) (by simp) ?_
    simp
    refine ⟨by omega, goDCall_eq w2 (by simp) (by simp) ?_⟩
    simp [hgl]
    refine ⟨by simp [roomOk]; omega, by omega, .mk (i + 1) (by omega) (by omega) (Weak.of [(0, some 0, i + 1, 2)] [(1, 1), (2, 2), (4, 4)] (by simp [hs, gV]; omega))⟩
  · obtain rfl : i = c.body.length / 4 := by omega
    simp [hge]
    refine goCall_gen [] [] [] [0] none fd (by simp [gapsAt_len]) ?_
    simp
    cases h : c.sack.ok with
    | true =>
      simp
      exact Ends.mk [] [] (by simp [hyes, h, optV, sack_v])
    | false =>
      simp
      exact Ends.mk [] [] (by simp [hyes, h, optV, zSack_v])
end
section
set_option maxRecDepth 200000
attribute [-simp] List.getD_eq_getElem?_getD
theorem l12Bit_ok (b : Bool) (n : Int) : Fn Tryz.prog fn_spec_l12Bit [.bool b, .int .i64 n] [] (.int .i64 (if b then n else 0)) [] := by
  refine Fn.of_go ln_spec_l12Bit rfl ?_
  cases b <;> simp [ac_spec_l12Bit]
  · exact Ends.mk [] [] (by simp)
  · exact Ends.mk [] [] (by simp)
theorem zChunk_v : zChunk.v = .agg [.int .i64 0, .int .i64 0, .str []] := rfl
theorem inS_nat {n : Int} (h : inS n = true) : ∃ k : Nat, n = k ∧ k ≤ 65535 := by
  simp [inS] at h
  exact ⟨n.toNat, by omega, by omega⟩
theorem part_facts {d : Part} (h : d.ok = true) : inS d.tsn = true ∧ inS d.stream = true ∧ inS d.ssn = true ∧ 1 ≤ d.text.length ∧ d.text.length ≤ 20 := by
  simp [Part.ok, inB] at h
  exact ⟨h.1.1.1, h.1.1.2, h.1.2, by omega, by omega⟩
theorem spec_DataPut_ok (d : Part) : Fn Tryz.prog fn_spec_DataPut [d.v] [] (optV zChunk.v Chunk.v (putPart d)) [] := by
  refine Fn.of_go ln_spec_DataPut rfl ?_
  have fd := l12Data_ok d
  simp only [Part.v, Part.cells] at fd
  simp [ac_spec_DataPut, Part.v, Part.cells]
  refine goCall_eq fd (by simp) ?_
  simp
  cases h : d.ok with
  | false =>
    simp
    exact Ends.mk [] [] (by simp [putPart, h, optV, zChunk_v])
  | true =>
    obtain ⟨p1, p2, p3, p4, p5⟩ := part_facts h
    obtain ⟨a, ha, ha2⟩ := inS_nat p1
    obtain ⟨b, hb, hb2⟩ := inS_nat p2
    obtain ⟨c, hc, hc2⟩ := inS_nat p3
    have w1 := l1Word_ok a (by omega)
    have w2 := l1Word_ok b (by omega)
    have w3 := l1Word_ok c (by omega)
    have b1 := l12Bit_ok d.last 1
    have b2 := l12Bit_ok d.first 2
    have b3 := l12Bit_ok d.loose 4
    have k1 : (0 : Int) ≤ (if d.last = true then 1 else 0) ∧ (if d.last = true then (1 : Int) else 0) ≤ 1 := by split <;> omega
    have k2 : (0 : Int) ≤ (if d.first = true then 2 else 0) ∧ (if d.first = true then (2 : Int) else 0) ≤ 2 := by split <;> omega
    have k3 : (0 : Int) ≤ (if d.loose = true then 4 else 0) ∧ (if d.loose = true then (4 : Int) else 0) ≤ 4 := by split <;> omega
    rw [← ha] at w1
    rw [← hb] at w2
    rw [← hc] at w3
    have hput : putPart d = some ⟨0, (if d.last = true then 1 else 0) + (if d.first = true then 2 else 0) + (if d.loose = true then 4 else 0), put16 d.tsn ++ put16 d.stream ++ put16 d.ssn ++ d.text⟩ := by unfold putPart; rw [if_pos h]
    generalize (if d.last = true then (1 : Int) else 0) = q1 at *
    generalize (if d.first = true then (2 : Int) else 0) = q2 at *
    generalize (if d.loose = true then (4 : Int) else 0) = q3 at *
    simp
    refine goDCall_eq b1 (by simp) (by simp) ?_
    simp
    refine goDCall_eq b2 (by simp) (by simp) ?_
    simp
    refine ⟨by omega, goDCall_eq b3 (by simp) (by simp) ?_⟩
    simp
    refine ⟨by omega, goDCall_eq w1 (by simp) (by simp) ?_⟩
    simp
    refine goDCall_eq w2 (by simp) (by simp) ?_
    simp
    refine ⟨by simp [put16_len], goDCall_eq w3 (by simp) (by simp) ?_⟩
    simp
    exact ⟨by simp [put16_len], by simp [put16_len]; omega, Ends.mk [] [] (by simp [hput, optV, Chunk.v, Chunk.cells])⟩
theorem hello_facts {x : Hello} (h : x.ok = true) : ∃ a b c d : Nat, x.tag = a ∧ x.window = b ∧ x.streams = c ∧ x.tsn = d ∧ a ≤ 4294967295 ∧ b ≤ 65535 ∧ c ≤ 4 ∧ d ≤ 65535 := by
  simp [Hello.ok, inB, inS] at h
  exact ⟨x.tag.toNat, x.window.toNat, x.streams.toNat, x.tsn.toNat, by omega, by omega, by omega, by omega, by omega, by omega, by omega, by omega⟩
theorem spec_InitPut_ok (x : Hello) (answer : Bool) : Fn Tryz.prog fn_spec_InitPut [x.v, .bool answer] [] (optV zChunk.v Chunk.v (putHello x answer)) [] := by
  refine Fn.of_go ln_spec_InitPut rfl ?_
  have fd := l12Init_ok x
  simp only [Hello.v, Hello.cells] at fd
  simp [ac_spec_InitPut, Hello.v, Hello.cells]
  refine goCall_eq fd (by simp) ?_
  simp
  cases h : x.ok with
  | false =>
    simp
    exact Ends.mk [] [] (by simp [putHello, h, optV, zChunk_v])
  | true =>
    obtain ⟨a, b, c, d, ha, hb, hc, hd, ha2, hb2, hc2, hd2⟩ := hello_facts h
    have w1 := l1Long_ok a (by omega)
    have w2 := l1Word_ok b (by omega)
    have w3 := l1Word_ok c (by omega)
    have w4 := l1Word_ok d (by omega)
    rw [← ha] at w1
    rw [← hb] at w2
    rw [← hc] at w3
    rw [← hd] at w4
    simp
    refine goDCall_eq w1 (by simp) (by simp) ?_
    simp
    refine goDCall_eq w2 (by simp) (by simp) ?_
    simp
    refine ⟨by simp [put16_len, put32_len], goDCall_eq w3 (by simp) (by simp) ?_⟩
    simp
    refine ⟨by simp [put16_len, put32_len], goDCall_eq w4 (by simp) (by simp) ?_⟩
    simp
    refine ⟨by simp [put16_len, put32_len], ?_⟩
    cases answer
    · simp
      exact Ends.mk [] [] (by simp [putHello, h, optV, Chunk.v, Chunk.cells])
    · simp
      exact Ends.mk [] [] (by simp [putHello, h, optV, Chunk.v, Chunk.cells])
theorem impl_InitPut_ok (x : Hello) (answer : Bool) : Fn Tryz.prog fn_impl_InitPut [x.v, .bool answer] [] (optV zChunk.v Chunk.v (putHello x answer)) [] := by
  refine Fn.of_go ln_impl_InitPut rfl ?_
  have fd := initOk_ok x
  simp only [Hello.v, Hello.cells] at fd
  simp [ac_impl_InitPut, Hello.v, Hello.cells]
  refine goCall_eq fd (by simp) ?_
  simp
  cases h : x.ok with
  | false =>
    simp
    exact Ends.mk [] [] (by simp [putHello, h, optV, zChunk_v])
  | true =>
    obtain ⟨a, b, c, d, ha, hb, hc, hd, ha2, hb2, hc2, hd2⟩ := hello_facts h
    have w1 := LongPut_ok a (by omega)
    have w2 := words_ok [b, c, d] (by simp; omega) (by simp)
    rw [← ha] at w1
    simp [← hb, ← hc, ← hd] at w2
    have hw : wordsS [b, c, d] = put16 x.window ++ (put16 x.streams ++ put16 x.tsn) := by simp [wordsS, hb, hc, hd]
    rw [hw] at w2
    cases answer <;> simp
    all_goals
      refine goCall_eq w1 (by simp) ?_
      simp
      refine goCall_gen [] [] [448] [] none w2 (by simp) ?_
      simp
      exact ⟨by simp [put16_len, put32_len], Ends.mk [] [] (by simp [putHello, h, optV, Chunk.v, Chunk.cells])⟩
theorem gaps_facts : ∀ {gs : List (Int × Int)} {l : Int}, 0 ≤ l → gapsOk l gs = true → ∀ g ∈ gs, ∃ a b : Nat, g.1 = a ∧ g.2 = b ∧ a ≤ 16 ∧ b ≤ 16
  | [], _, _, _, g, hg => by simp at hg
  | g :: r, l, h0, h, x, hx => by
    simp [gapsOk] at h
    rcases List.mem_cons.1 hx with rfl | hx
    · exact ⟨x.1.toNat, x.2.toNat, by omega, by omega, by omega, by omega⟩
    · exact gaps_facts (by omega) h.2 x hx
def sackB (x : Sack) (i : Nat) : List UInt8 := put16 x.cum ++ (x.gaps.take i).flatMap fun g => put16 g.1 ++ put16 g.2
theorem sackB_snoc {x : Sack} {i : Nat} (h : i < x.gaps.length) : sackB x (i + 1) = sackB x i ++ (put16 (nth x.gaps i).1 ++ put16 (nth x.gaps i).2) := by
  unfold sackB
  rw [take_nth h]; simp
theorem sackB_len (x : Sack) (i : Nat) : (sackB x i).length ≤ 2 + 4 * i := by
  have : ∀ l : List (Int × Int), (l.flatMap fun g => put16 g.1 ++ put16 g.2).length = 4 * l.length := fun l => by
    induction l with
    | nil => rfl
    | cons g r ih => simp only [List.flatMap_cons, List.length_append, put16_len, ih, List.length_cons]; omega
  unfold sackB
  rw [List.length_append, put16_len, this]
  simp; omega
theorem sack_facts {x : Sack} (h : x.ok = true) : inS x.cum = true ∧ gapsOk 0 x.gaps = true ∧ x.gaps.length ≤ 8 := by
  simp [Sack.ok] at h
  exact ⟨h.1.2, h.1.1, h.2⟩
theorem spec_SackPut_ok (x : Sack) (hl : x.gaps.length ≤ 1000000) : Fn Tryz.prog fn_spec_SackPut [x.v] [] (optV zChunk.v Chunk.v (putSack x)) [] := by
  refine Fn.of_go ln_spec_SackPut rfl ?_
  have fd := l12Sack_ok x hl
  simp only [Sack.v, Sack.cells] at fd
  simp [ac_spec_SackPut, Sack.v, Sack.cells]
  refine goCall_eq fd (by simp) ?_
  simp
  cases h : x.ok with
  | false =>
    simp
    exact Ends.mk [] [] (by simp [putSack, h, optV, zChunk_v])
  | true =>
    obtain ⟨p1, p2, p3⟩ := sack_facts h
    obtain ⟨a, ha, ha2⟩ := inS_nat p1
    have w1 := l1Word_ok a (by omega)
    rw [← ha] at w1
    simp
    refine goCall_eq w1 (by simp) ?_
    simp
    refine go_loop (fun i => { env := [(1, .ptr 1 0), (2, .ptr 2 0), (4, .str (sackB x i)), (5, .int .i64 (i : Nat))], loc := [], box := [(1, [.int .i64 x.cum, .sl none 2 (x.gaps.map gV)]), (2, [.int .i64 0, .int .i64 0, .str []])], stat := [] }) (fun i => i ≤ x.gaps.length) (fun i => x.gaps.length - i) 0 (by omega) (Weak.of [] [(1, 1), (2, 2)] (by simp [sackB])) ?_
    intro i hi
    simp
    refine goTest_dec (fun hlt => ?_) (fun hge => ?_)
    · have hb := sackB_len x i
      have hs := sackB_snoc hlt
      obtain ⟨u, v, hu, hv, hu2, hv2⟩ := gaps_facts (by omega) p2 _ (nth_mem hlt)
      have v1 := l1Word_ok u (by omega)
      have v2 := l1Word_ok v (by omega)
      rw [← hu] at v1
      rw [← hv] at v2
      have hg : ∀ g : Int × Int, gV g = .agg [.int .i64 g.1, .int .i64 g.2] := fun _ => rfl
      simp [hlt, hg]
      refine goDCall_eq v1 (by simp) (by simp) ?_
      simp [hlt, hg]
      refine ⟨by simp [put16_len]; omega, goDCall_eq v2 (by simp) (by simp) ?_⟩
      simp
      exact ⟨by simp [put16_len]; omega, by omega, .mk (i + 1) hlt (by omega) (Weak.of [] [(1, 1), (2, 2)] (by simp [hs]))⟩
    · obtain rfl : i = x.gaps.length := by omega
      simp
      exact Ends.mk [] [] (by simp [putSack, h, optV, sackB, Chunk.v, Chunk.cells])
theorem impl_SackPut_ok (x : Sack) (hl : x.gaps.length ≤ 1000000) : Fn Tryz.prog fn_impl_SackPut [x.v] [] (optV zChunk.v Chunk.v (putSack x)) [] := by
  refine Fn.of_go ln_impl_SackPut rfl ?_
  have fd := impl_sackOk_ok x hl
  simp only [Sack.v, Sack.cells] at fd
  simp [ac_impl_SackPut, Sack.v, Sack.cells]
  refine goCall_eq fd (by simp) ?_
  simp
  cases h : x.ok with
  | false =>
    simp
    exact Ends.mk [] [] (by simp [putSack, h, optV, zChunk_v])
  | true =>
    obtain ⟨p1, p2, p3⟩ := sack_facts h
    obtain ⟨a, ha, ha2⟩ := inS_nat p1
    have w1 := words_ok [a] (by simpa using ha2) (by simp)
    simp [← ha, wordsS] at w1
    simp
    refine goCall_gen [] [] [208] [] none w1 (by simp) ?_
    simp
    refine go_loop (fun i => { env := [(2, .ptr 2 0), (16, .sl none 2 (x.gaps.map gV)), (17, .int .i64 (x.gaps.length : Nat)), (4, .str (sackB x i)), (18, .int .i64 (i : Nat))], loc := [], box := [(2, [.int .i64 0, .int .i64 0, .str []])], stat := [] }) (fun i => i ≤ x.gaps.length) (fun i => x.gaps.length - i) 0 (by omega) (Weak.of [] [(2, 2)] (by simp [sackB])) ?_
    intro i hi
    simp
    refine goTest_dec (fun hlt => ?_) (fun hge => ?_)
    · have hb := sackB_len x i
      have hs := sackB_snoc hlt
      obtain ⟨u, v, hu, hv, hu2, hv2⟩ := gaps_facts (by omega) p2 _ (nth_mem hlt)
      simp [hlt]
      generalize nth x.gaps i = g at *
      have v1 := words_ok [u, v] (by simp; omega) (by simp)
      simp [← hu, ← hv, wordsS] at v1
      simp [gV]
      refine goCall_gen [] [] [432] [] none v1 (by simp) ?_
      simp
      exact ⟨by simp [put16_len]; omega, by omega, .mk (i + 1) hlt (by omega) (Weak.of [] [(2, 2)] (by simp [hs]))⟩
    · obtain rfl : i = x.gaps.length := by omega
      simp
      exact Ends.mk [] [] (by simp [putSack, h, optV, sackB, Chunk.v, Chunk.cells])
end
section
set_option maxRecDepth 200000
attribute [-simp] List.getD_eq_getElem?_getD
theorem likeParts_ok (a b : Part) : Fn Tryz.prog fn_impl_likeParts [a.v, b.v] [] (.bool (likeP a b)) [] := by
  refine Fn.of_go ln_impl_likeParts rfl ?_
  simp [ac_impl_likeParts, Part.v, Part.cells]
  repeat' (first
    | (refine goTest_dec (fun h => ?_) (fun h => ?_) <;> simp [h])
    | (refine goTest_bool (fun h => ?_) (fun h => ?_) <;> simp [h])
    | (refine Ends.mk [] [] ?_; simp [likeP, *] <;> fail))
theorem l22Same_ok (a b : Part) : Fn Tryz.prog fn_spec_l22Same [a.v, b.v] [] (.bool (likeP a b)) [] := by
  refine Fn.of_go ln_spec_l22Same rfl ?_
  simp [ac_spec_l22Same, Part.v, Part.cells]
  repeat' (first
    | (refine goTest_dec (fun h => ?_) (fun h => ?_) <;> simp [h])
    | (refine goTest_bool (fun h => ?_) (fun h => ?_) <;> simp [h])
    | (refine Ends.mk [] [] ?_; simp [likeP, *] <;> fail))
theorem ssnN_snoc {l : List Part} {s : Int} {i : Nat} (h : i < l.length) : ssnN (l.take (i + 1)) s = ssnN (l.take i) s + (if (nth l i).first = true ∧ (nth l i).loose = false ∧ (nth l i).stream = s then 1 else 0) := by
  unfold ssnN
  rw [take_nth h, List.filter_append, List.length_append]
  congr 1
  by_cases q : (nth l i).first = true ∧ (nth l i).loose = false ∧ (nth l i).stream = s
  · rw [if_pos q]; simp [q]
  · rw [if_neg q]
    have : ((nth l i).first && !(nth l i).loose && decide ((nth l i).stream = s)) = false := by
      cases h1 : (nth l i).first <;> cases h2 : (nth l i).loose <;> simp_all
    simp [this]
theorem ssnN_le (l : List Part) (s : Int) : ssnN l s ≤ l.length := List.length_filter_le _ _
theorem l31Ssn_ok (l : List Part) (s : Int) (hl : l.length ≤ 1000000) : Fn Tryz.prog fn_spec_l31Ssn [psl l, .int .i64 s] [] (.int .i64 (ssnN l s : Nat)) [] := by
  refine Fn.of_go ln_spec_l31Ssn rfl ?_
  simp [ac_spec_l31Ssn, psl]
  refine go_loop (fun i => { env := [(0, psl l), (1, .int .i64 s), (5, .int .i64 ((ssnN (l.take i) s : Nat) : Int)), (6, .int .i64 (i : Nat))], loc := [], box := [], stat := [] }) (fun i => i ≤ l.length) (fun i => l.length - i) 0 (by omega) (Weak.of [] [] (by simp [psl, ssnN])) ?_
  intro i hi
  simp [psl]
  refine goTest_dec (fun hlt => ?_) (fun hge => ?_)
  · have hs := ssnN_snoc (s := s) hlt
    have hle := ssnN_le (l.take i) s
    simp at hle
    simp [hlt, Part.v, Part.cells]
    generalize hx : nth l i = x at *
    repeat' (first
      | (refine goTest_dec (fun h => ?_) (fun h => ?_) <;> simp [h, hlt, hx, Part.v, Part.cells])
      | (refine goTest_bool (fun h => ?_) (fun h => ?_) <;> simp [h, hlt, hx, Part.v, Part.cells])
      | (refine And.intro (by omega) ?_)
      | (refine Again.mk (i + 1) hlt (by omega) (Weak.of [] [] ?_); simp [psl, hs, *] <;> fail))
  · obtain rfl : i = l.length := by omega
    simp
    exact Ends.mk [] [] (by simp)
theorem nth_last {α : Type} [Inhabited α] {l : List α} (h : l ≠ []) : l.getLast? = some (nth l (l.length - 1)) := by
  have hl := List.length_pos_iff.2 h
  rw [List.getLast?_eq_getElem?, nth_eq (by omega), List.getElem?_eq_getElem (by omega)]
theorem followS_nil (d : Part) : followS [] d = (d.first && (d.loose || decide (d.ssn = 0))) := rfl
theorem followS_ne {l : List Part} (h : l ≠ []) (d : Part) : followS l d = if (nth l (l.length - 1)).last then d.first && (d.loose || decide (d.ssn = ssnN l d.stream)) else !d.first && likeP d (nth l (l.length - 1)) := by
  unfold followS; rw [nth_last h]
theorem likeP_comm (a b : Part) : likeP a b = likeP b a := by
  rw [Bool.eq_iff_iff]; simp [likeP]
  constructor
  · rintro ⟨⟨h1, h2⟩, h3⟩; exact ⟨⟨h1.symm, h2.symm⟩, h3.symm⟩
  · rintro ⟨⟨h1, h2⟩, h3⟩; exact ⟨⟨h1.symm, h2.symm⟩, h3.symm⟩
theorem l31Follows_ok (l : List Part) (d : Part) (hl : l.length ≤ 1000000) : Fn Tryz.prog fn_spec_l31Follows [psl l, d.v] [] (.bool (followS l d)) [] := by
  refine Fn.of_go ln_spec_l31Follows rfl ?_
  have f1 := l31Ssn_ok l d.stream hl
  have f2 := l22Same_ok (nth l (l.length - 1)) d
  rw [likeP_comm] at f2
  simp only [Part.v, Part.cells, psl] at f1 f2
  by_cases h0 : l = []
  · subst h0
    rw [followS_nil]
    have f1 := l31Ssn_ok [] d.stream (by simp)
    simp [psl, ssnN] at f1
    simp [ac_spec_l31Follows, psl, Part.v, Part.cells]
    repeat' (first
      | (refine goTest_dec (fun h => ?_) (fun h => ?_) <;> simp [h])
      | (refine goTest_bool (fun h => ?_) (fun h => ?_) <;> simp [h])
      | (refine goCall_eq f1 (by simp) ?_; simp)
      | (refine goDCall_eq f1 (by simp) (by simp) ?_; simp)
      | (refine Ends.mk [] [] ?_; simp [*] <;> fail))
  · have hl0 := List.length_pos_iff.2 h0
    have e1 : ((l.length : Int) - 1).toNat = l.length - 1 := by omega
    have e2 : l.length - 1 < l.length := by omega
    rw [followS_ne h0]
    simp [ac_spec_l31Follows, psl, Part.v, Part.cells, hl0, e1, e2]
    repeat' (first
      | (refine goTest_dec (fun h => ?_) (fun h => ?_) <;> simp [h, hl0, e1, e2, Part.v, Part.cells])
      | (refine goTest_bool (fun h => ?_) (fun h => ?_) <;> simp [h, hl0, e1, e2, Part.v, Part.cells])
      | (refine goCall_eq f1 (by simp) ?_; simp)
      | (refine goDCall_eq f1 (by simp) (by simp) ?_; simp)
      | (refine goCall_eq f2 (by simp) ?_; simp)
      | (refine goDCall_eq f2 (by simp) (by simp) ?_; simp)
      | (have f3 := f2; simp only [h] at f3; refine goCall_eq f3 (by simp) ?_; simp)
      | (have f3 := f2; simp only [h] at f3; refine goDCall_eq f3 (by simp) (by simp) ?_; simp)
      | (refine And.intro (by omega) ?_)
      | (refine Ends.mk [] [] ?_; simp [*] <;> fail))
theorem mayFollow_ok (l : List Part) (d : Part) (hl : l.length ≤ 1000000) : Fn Tryz.prog fn_impl_mayFollow [psl l, d.v] [] (.bool (followS l d)) [] := by
  refine Fn.of_go ln_impl_mayFollow rfl ?_
  have f2 := likeParts_ok d (nth l (l.length - 1))
  simp only [Part.v, Part.cells] at f2
  by_cases h0 : l = []
  · have hf : followS l d = (d.first && (d.loose || decide (d.ssn = ssnN l d.stream))) := by rw [h0]; rfl
    rw [hf]
    simp [ac_impl_mayFollow, psl, Part.v, Part.cells, h0]
    repeat' (first
      | (refine goTest_dec (fun h => ?_) (fun h => ?_) <;> simp [h])
      | (refine goTest_bool (fun h => ?_) (fun h => ?_) <;> simp [h])
      | (refine Ends.mk [] [] ?_; simp [*] <;> fail)
      | (refine go_loop (fun i => { env := [(3, .ptr 3 0), (39, psl l), (40, .int .i64 (l.length : Nat)), (5, .int .i64 ((ssnN (l.take i) d.stream : Nat) : Int)), (41, .int .i64 (i : Nat))], loc := [], box := [(3, [.undef, .int .i64 d.stream, .int .i64 d.ssn, .undef, .undef, .undef, .undef])], stat := [] }) (fun i => i ≤ l.length) (fun i => l.length - i) 0 (by omega) (Weak.of [] [(3, 3)] (by simp [psl, ssnN, h0])) ?_))
    all_goals
      intro i hi
      simp [psl]
      refine goTest_dec (fun hlt => ?_) (fun hge => ?_)
      · exact absurd hlt (by rw [h0]; simp)
      · obtain rfl : i = l.length := by omega
        simp
        exact Ends.mk [] [] (by simp [*])
  · have hl0 := List.length_pos_iff.2 h0
    have e1 : ((l.length : Int) - 1).toNat = l.length - 1 := by omega
    have e2 : l.length - 1 < l.length := by omega
    rw [followS_ne h0]
    simp [ac_impl_mayFollow, psl, Part.v, Part.cells, hl0, e1, e2]
    repeat' (first
      | (refine goTest_dec (fun h => ?_) (fun h => ?_) <;> simp [h, hl0, e1, e2, Part.v, Part.cells])
      | (refine goTest_bool (fun h => ?_) (fun h => ?_) <;> simp [h, hl0, e1, e2, Part.v, Part.cells])
      | (refine goCall_eq f2 (by simp) ?_; simp)
      | (refine goDCall_eq f2 (by simp) (by simp) ?_; simp)
      | (have f3 := f2; simp only [h] at f3; refine goCall_eq f3 (by simp) ?_; simp)
      | (have f3 := f2; simp only [h] at f3; refine goDCall_eq f3 (by simp) (by simp) ?_; simp)
      | (refine And.intro (by omega) ?_)
      | (refine Ends.mk [] [] ?_; simp [*] <;> fail)
      | (refine go_loop (fun i => { env := [(3, .ptr 3 0), (39, psl l), (40, .int .i64 (l.length : Nat)), (5, .int .i64 ((ssnN (l.take i) d.stream : Nat) : Int)), (41, .int .i64 (i : Nat))], loc := [], box := [(3, [.undef, .int .i64 d.stream, .int .i64 d.ssn, .undef, .undef, .undef, .undef])], stat := [] }) (fun i => i ≤ l.length) (fun i => l.length - i) 0 (by omega) (Weak.of [] [(3, 3)] (by simp [psl, ssnN])) ?_))
    all_goals
      intro i hi
      simp [psl]
      refine goTest_dec (fun hlt => ?_) (fun hge => ?_)
      · have hs := ssnN_snoc (s := d.stream) hlt
        have hle := ssnN_le (l.take i) d.stream
        simp at hle
        simp [hlt, Part.v, Part.cells]
        generalize hx : nth l i = x at *
        repeat' (first
          | (refine goTest_dec (fun h => ?_) (fun h => ?_) <;> simp [h, hlt, hx, Part.v, Part.cells])
          | (refine goTest_bool (fun h => ?_) (fun h => ?_) <;> simp [h, hlt, hx, Part.v, Part.cells])
          | (refine And.intro (by omega) ?_)
          | (refine Again.mk (i + 1) hlt (by omega) (Weak.of [] [(3, 3)] ?_); simp [psl, hs, *] <;> fail))
      · obtain rfl : i = l.length := by omega
        simp
        exact Ends.mk [] [] (by simp [*])
end
end Go.Proofs.YtjkbbdmkgealfaaGreatDoor
