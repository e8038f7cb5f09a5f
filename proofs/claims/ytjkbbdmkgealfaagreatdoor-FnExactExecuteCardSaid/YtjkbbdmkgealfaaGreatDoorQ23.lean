/-
  Chunks in bytes.
  Packets in bytes.
  Packets written; packets drawn.
  One chunk, by the program: what a side tells first.
-/
import Derived.Test.YtjkbbdmkgealfaaGreatDoorQ22
namespace Go.Proofs.YtjkbbdmkgealfaaGreatDoor
set_option linter.all false
section
set_option maxRecDepth 200000
set_option maxHeartbeats 4000000
attribute [-simp] List.getD_eq_getElem?_getD
def putC (c : Chunk) : List UInt8 := UInt8.ofNat c.kind.toNat :: UInt8.ofNat c.flags.toNat :: put16 (4 + c.body.length) ++ c.body ++ List.replicate ((4 + c.body.length + 3) / 4 * 4 - (4 + c.body.length)) 0
theorem putC_len (c : Chunk) : (putC c).length = (4 + c.body.length + 3) / 4 * 4 := by
  simp [putC, put16_len]; omega
def baseC (c : Chunk) : List UInt8 := UInt8.ofNat c.kind.toNat :: UInt8.ofNat c.flags.toNat :: put16 (4 + c.body.length) ++ c.body
theorem l11Put_ok (c : Chunk) (hc : c.ok = true) : Fn Tryz.prog fn_spec_l11Put [c.v] [] (.str (putC c)) [] := by
  refine Fn.of_go ln_spec_l11Put rfl ?_
  simp only [Chunk.ok, inB, Bool.and_eq_true, decide_eq_true_eq] at hc
  obtain ⟨⟨hk, hf⟩, hl⟩ := hc
  obtain ⟨kn, hkn⟩ := Int.eq_ofNat_of_zero_le hk.1
  obtain ⟨fn, hfn⟩ := Int.eq_ofNat_of_zero_le hf.1
  have e1 : IntKind.u8.wrap (kn : Int) = kn := wrap_byte (by omega) (by omega)
  have e2 : IntKind.u8.wrap (fn : Int) = fn := wrap_byte (by omega) (by omega)
  have f1 := l1Word_ok (4 + c.body.length) (by omega)
  have e4 : (4 : Int) + (c.body.length : Int) = ((4 + c.body.length : Nat) : Int) := by omega
  have eb : baseC c = UInt8.ofNat kn :: UInt8.ofNat fn :: (put16 ((4 + c.body.length : Nat) : Int) ++ c.body) := by simp [baseC, hkn, hfn]
  simp [ac_spec_l11Put, chunk_v, hkn, hfn, e1, e2]
  refine ⟨by omega, ?_⟩
  rw [e4]
  refine goDCall_eq f1 (by simp) (by simp) ?_
  simp
  have hp3 : (4 + c.body.length + 3) / 4 * 4 - (4 + c.body.length) ≤ 3 := by omega
  repeat' (first | (refine And.intro (by first | omega | (simp [put16_len]; omega) | simp [put16_len]) ?_))
  refine go_loop (fun j => { env := [(3, .str (baseC c ++ List.replicate j 0))], loc := [], box := [], stat := [] }) (fun j => j ≤ (4 + c.body.length + 3) / 4 * 4 - (4 + c.body.length)) (fun j => 4 - j) 0 (by omega) (Weak.of [] [] (by simp [eb])) ?_
  intro j hj
  have hlen : (baseC c ++ List.replicate j 0).length = 4 + c.body.length + j := by simp [baseC, put16_len]; omega
  have hm : ((baseC c ++ List.replicate j 0).length : Int).tmod 4 = (((4 + c.body.length + j) % 4 : Nat) : Int) := by rw [hlen, tmod_pos (by omega)]; omega
  generalize hg : baseC c ++ List.replicate j 0 = g at *
  simp [hm]
  refine goTest_dec (fun q => ?_) (fun q => ?_)
  · have q2 : (4 + c.body.length + j) % 4 = 0 := by omega
    simp
    have : putC c = g := by
      rw [← hg]
      have : j = (4 + c.body.length + 3) / 4 * 4 - (4 + c.body.length) := by omega
      rw [this]; rfl
    rw [this]
    exact Ends.mk [] [] (by simp)
  · simp
    refine ⟨by omega, Again.mk (j + 1) (by omega) (by omega) (Weak.of [] [] ?_)⟩
    rw [← hg]
    simp [List.replicate_succ']
def sliceB (s : List UInt8) (a b : Nat) : List UInt8 := (s.take b).drop a
theorem slice_split {s : List UInt8} {a b c : Nat} (h1 : a ≤ b) (h2 : b ≤ c) (h3 : b ≤ s.length) : sliceB s a c = sliceB s a b ++ sliceB s b c := by
  unfold sliceB
  have e : s.take c = s.take b ++ (s.take c).drop b := by
    have := (List.take_append_drop b (s.take c)).symm
    rwa [List.take_take, Nat.min_eq_left h2] at this
  conv => lhs; rw [e]
  rw [List.drop_append_of_le_length (by simp; omega)]
theorem slice4 {s : List UInt8} {i : Nat} (h : i + 4 ≤ s.length) : sliceB s i (i + 4) = [nth s i, nth s (i + 1), nth s (i + 2), nth s (i + 3)] := by
  unfold sliceB
  rw [take_nth (show i + 3 < s.length by omega), take_nth (show i + 2 < s.length by omega), take_nth (show i + 1 < s.length by omega), take_nth (show i < s.length by omega)]
  simp only [List.append_assoc]
  rw [List.drop_left' (by simp; omega)]
  rfl
theorem sliceB_len {s : List UInt8} {a b : Nat} (h : b ≤ s.length) : (sliceB s a b).length = b - a := by
  simp [sliceB]; omega
def zerosB (l : List UInt8) : Bool := l.all fun b => decide (b = 0)
def chunkOf (s : List UInt8) (i n : Nat) : Chunk := ⟨(nth s i).toNat, (nth s (i + 1)).toNat, sliceB s (i + 4) (i + n)⟩
def chunkAt (s : List UInt8) (i : Nat) : Option (Chunk × Nat) :=
  if i + 4 ≤ s.length ∧ (4 ≤ at16 s (i + 2) ∧ at16 s (i + 2) ≤ 64) ∧ i + ((at16 s (i + 2)).toNat + 3) / 4 * 4 ≤ s.length ∧ zerosB (sliceB s (i + (at16 s (i + 2)).toNat) (i + ((at16 s (i + 2)).toNat + 3) / 4 * 4)) = true
  then some (chunkOf s i (at16 s (i + 2)).toNat, i + ((at16 s (i + 2)).toNat + 3) / 4 * 4) else none
theorem put16_at {s : List UInt8} {i n : Nat} (h : at16 s i = n) : put16 (n : Int) = [nth s i, nth s (i + 1)] := by
  have h1 := (nth s i).toNat_lt
  have h2 := (nth s (i + 1)).toNat_lt
  unfold at16 at h
  have e1 : (n : Int).toNat / 256 = (nth s i).toNat := by omega
  have e2 : (n : Int).toNat % 256 = (nth s (i + 1)).toNat := by omega
  unfold put16
  rw [e1, e2]
  simp
theorem putC_of {s : List UInt8} {i n : Nat} (h : i + 4 ≤ s.length) (hn : at16 s (i + 2) = n) (h4 : 4 ≤ n ∧ n ≤ 64) (hi : i + n ≤ s.length) :
    putC (chunkOf s i n) = sliceB s i (i + n) ++ List.replicate ((n + 3) / 4 * 4 - n) 0 ∧ (chunkOf s i n).body.length = n - 4 ∧ (chunkOf s i n).ok = true := by
  have hb : (chunkOf s i n).body.length = n - 4 := by simp [chunkOf, sliceB_len hi]; omega
  refine ⟨?_, hb, ?_⟩
  · have e : 4 + (chunkOf s i n).body.length = n := by omega
    have e2 : (4 : Int) + ((chunkOf s i n).body.length : Int) = (n : Int) := by omega
    unfold putC
    rw [e, e2, put16_at hn]
    rw [slice_split (show i ≤ i + 4 by omega) (show i + 4 ≤ i + n by omega) h, slice4 h]
    simp [chunkOf]
  · have h1 := (nth s i).toNat_lt
    have h2 := (nth s (i + 1)).toNat_lt
    simp only [Chunk.ok, inB, Bool.and_eq_true, decide_eq_true_eq, hb]
    simp only [chunkOf]
    omega
theorem slice_put {s : List UInt8} {i n : Nat} (h : i + 4 ≤ s.length) (hn : at16 s (i + 2) = n) (h4 : 4 ≤ n ∧ n ≤ 64) (hi : i + (n + 3) / 4 * 4 ≤ s.length) :
    sliceB s i (i + (n + 3) / 4 * 4) = putC (chunkOf s i n) ↔ zerosB (sliceB s (i + n) (i + (n + 3) / 4 * 4)) = true := by
  obtain ⟨e, -, -⟩ := putC_of h hn h4 (by omega)
  rw [e, slice_split (show i ≤ i + n by omega) (show i + n ≤ i + (n + 3) / 4 * 4 by omega) (by omega), List.append_cancel_left_eq]
  rw [List.eq_replicate_iff]
  simp only [zerosB, List.all_eq_true, decide_eq_true_eq]
  constructor
  · exact fun q => q.2
  · exact fun q => ⟨by rw [sliceB_len hi]; omega, q⟩
def optC : Option (Chunk × Nat) → V
  | some (c, j) => .tup [c.v, .int .i64 j, .bool true]
  | none => .tup [zChunk.v, .int .i64 0, .bool false]
theorem spec_ChunkGet_ok (s : List UInt8) (i : Nat) (hs : s.length ≤ 1000000) (hi : i ≤ 1000000) : Fn Tryz.prog fn_spec_ChunkGet [.str s, .int .i64 i] [] (optC (chunkAt s i)) [] := by
  refine Fn.of_go ln_spec_ChunkGet rfl ?_
  have hno : ¬ (i + 4 ≤ s.length ∧ (4 ≤ at16 s (i + 2) ∧ at16 s (i + 2) ≤ 64) ∧ i + ((at16 s (i + 2)).toNat + 3) / 4 * 4 ≤ s.length ∧ zerosB (sliceB s (i + (at16 s (i + 2)).toNat) (i + ((at16 s (i + 2)).toNat + 3) / 4 * 4)) = true) → chunkAt s i = none := fun q => by
    unfold chunkAt; rw [if_neg q]
  have hlt := at16_lt s (i + 2)
  obtain ⟨n, hn⟩ := Int.eq_ofNat_of_zero_le hlt.1
  have hno2 : ¬ (i + 4 ≤ s.length ∧ (4 ≤ n ∧ n ≤ 64) ∧ i + (n + 3) / 4 * 4 ≤ s.length ∧ zerosB (sliceB s (i + n) (i + (n + 3) / 4 * 4)) = true) → chunkAt s i = none := fun q => hno (by
    rw [hn]; simpa using q)
  have hyes : (i + 4 ≤ s.length ∧ (4 ≤ n ∧ n ≤ 64) ∧ i + (n + 3) / 4 * 4 ≤ s.length ∧ zerosB (sliceB s (i + n) (i + (n + 3) / 4 * 4)) = true) → chunkAt s i = some (chunkOf s i n, i + (n + 3) / 4 * 4) := fun q => by
    unfold chunkAt; rw [hn, if_pos (by simpa using q)]; simp
  clear hno
  simp [ac_spec_ChunkGet]
  refine ⟨by omega, goTest_dec (fun q1 => ?_) (fun q1 => ?_)⟩
  · rw [hno2 (by omega)]
    simp
    exact Ends.mk [] [] (by simp [optC, zChunk_v])
  simp
  have f1 := l1At_ok s (i + 2) (by omega) (by omega)
  rw [hn] at f1
  refine ⟨by omega, ?_⟩
  rw [show (i : Int) + 2 = ((i + 2 : Nat) : Int) by omega]
  refine goCall_eq f1 (by simp) ?_
  simp
  refine goCall_eq (l6In_ok _ _ _) (by simp) ?_
  simp [inB_dec, -Bool.decide_and]
  refine goTest_dec (fun q2 => ?_) (fun q2 => ?_)
  · simp [q2]
    refine ⟨by omega, goTest_dec (fun q3 => ?_) (fun q3 => ?_)⟩
    · rw [hno2 (by omega)]
      simp [q3]
      exact Ends.mk [] [] (by simp [optC, zChunk_v])
    · obtain ⟨e, hb, hok⟩ := putC_of (s := s) (i := i) (n := n) (by omega) hn (by omega) (by omega)
      have f2 := l11Put_ok _ hok
      have hL := putC_len (chunkOf s i n)
      rw [hb, show 4 + (n - 4) = n by omega] at hL
      have ev : (chunkOf s i n).v = .agg [.int .i64 (nth s i).toNat, .int .i64 (nth s (i + 1)).toNat, .str (List.drop (i + 4) (List.take (i + n) s))] := rfl
      rw [ev] at f2
      have w1 : IntKind.i64.wrap ((s.getD i 0).toNat : Int) = (nth s i).toNat := by rw [wrap_u8, getD_nth (by omega)]
      have w2 : IntKind.i64.wrap ((s.getD (i + 1) 0).toNat : Int) = (nth s (i + 1)).toNat := by rw [wrap_u8, getD_nth (by omega)]
      have w3 : ((i : Int) + 4).toNat = i + 4 := by omega
      have w4 : ((i : Int) + (n : Int)).toNat = i + n := by omega
      have w5 : ((i : Int) + ((putC (chunkOf s i n)).length : Int)).toNat = i + (n + 3) / 4 * 4 := by rw [hL]; omega
      simp [q3, w1, w2, w3, w4]
      refine ⟨by omega, by omega, by omega, by omega, by omega, by omega, ?_⟩
      refine goCall_eq f2 (by simp) ?_
      have hsl := slice_put (s := s) (i := i) (n := n) (by omega) hn (by omega)
      generalize hT : putC (chunkOf s i n) = T at *
      simp [w5]
      refine ⟨by omega, goTest_dec (fun q4 => ?_) (fun q4 => ?_)⟩
      · rw [hno2 (by omega)]
        simp [q4]
        exact Ends.mk [] [] (by simp [optC, zChunk_v])
      · simp [q4, w5]
        refine ⟨by omega, by omega, goTest_dec (fun q5 => ?_) (fun q5 => ?_)⟩
        · have hz := (hsl (by omega)).1 q5
          rw [hyes ⟨by omega, by omega, by omega, hz⟩]
          simp [q5]
          refine ⟨by omega, Ends.mk [] [] ?_⟩
          simp [optC, ev]
          omega
        · have hz : ¬ zerosB (sliceB s (i + n) (i + (n + 3) / 4 * 4)) = true := fun z => q5 ((hsl (by omega)).2 z)
          rw [hno2 (fun q => hz q.2.2.2)]
          simp [q5]
          exact Ends.mk [] [] (by simp [optC, zChunk_v])
  · rw [hno2 (by omega)]
    simp [q2]
    exact Ends.mk [] [] (by simp [optC, zChunk_v])
theorem zerosB_iff {s : List UInt8} {a b : Nat} (hb : b ≤ s.length) : zerosB (sliceB s a b) = true ↔ ∀ j, a ≤ j → j < b → nth s j = 0 := by
  simp only [zerosB, List.all_eq_true, decide_eq_true_eq]
  constructor
  · intro h j h1 h2
    refine h _ ?_
    have : (sliceB s a b)[j - a]'(by rw [sliceB_len hb]; omega) = nth s j := by
      simp only [sliceB]
      rw [List.getElem_drop, List.getElem_take, nth_eq (by omega)]
      congr 1
      omega
    rw [← this]
    exact List.getElem_mem _
  · intro h x hx
    obtain ⟨k, hk, rfl⟩ := List.getElem_of_mem hx
    rw [sliceB_len hb] at hk
    simp only [sliceB]
    rw [List.getElem_drop, List.getElem_take, ← nth_eq]
    exact h _ (by omega) (by omega)
theorem impl_ChunkGet_ok (s : List UInt8) (i : Nat) (hs : s.length ≤ 1000000) (hi : i ≤ 1000000) : Fn Tryz.prog fn_impl_ChunkGet [.str s, .int .i64 i] [] (optC (chunkAt s i)) [] := by
  refine Fn.of_go ln_impl_ChunkGet rfl ?_
  have hlt := at16_lt s (i + 2)
  obtain ⟨n, hn⟩ := Int.eq_ofNat_of_zero_le hlt.1
  have hno2 : ¬ (i + 4 ≤ s.length ∧ (4 ≤ n ∧ n ≤ 64) ∧ i + (n + 3) / 4 * 4 ≤ s.length ∧ zerosB (sliceB s (i + n) (i + (n + 3) / 4 * 4)) = true) → chunkAt s i = none := fun q => by
    unfold chunkAt; rw [hn, if_neg (by simpa using q)]
  have hyes : (i + 4 ≤ s.length ∧ (4 ≤ n ∧ n ≤ 64) ∧ i + (n + 3) / 4 * 4 ≤ s.length ∧ zerosB (sliceB s (i + n) (i + (n + 3) / 4 * 4)) = true) → chunkAt s i = some (chunkOf s i n, i + (n + 3) / 4 * 4) := fun q => by
    unfold chunkAt; rw [hn, if_pos (by simpa using q)]; simp
  simp [ac_impl_ChunkGet]
  refine ⟨by omega, goTest_dec (fun q1 => ?_) (fun q1 => ?_)⟩
  · rw [hno2 (by omega)]
    simp [q1]
    exact Ends.mk [] [] (by simp [optC, zChunk_v])
  simp [q1]
  have f1 := WordGet_ok s (i + 2) (by omega) (by omega)
  rw [hn] at f1
  refine ⟨by omega, ?_⟩
  rw [show (i : Int) + 2 = ((i + 2 : Nat) : Int) by omega]
  refine goCall_eq f1 (by simp) ?_
  simp
  refine goTest_dec (fun q2 => ?_) (fun q2 => ?_)
  · rw [hno2 (by omega)]
    simp [q2]
    exact Ends.mk [] [] (by simp [optC, zChunk_v])
  simp [q2]
  refine ⟨by omega, goTest_dec (fun q3 => ?_) (fun q3 => ?_)⟩
  · rw [hno2 (by omega)]
    simp [q3]
    exact Ends.mk [] [] (by simp [optC, zChunk_v])
  have w0 : ((n : Int) + 3).tdiv 4 * 4 = (((n + 3) / 4 * 4 : Nat) : Int) := by rw [tdiv_pos (by omega)]; omega
  have w00 : ((n : Int) + 3).tdiv 4 = (((n + 3) / 4 : Nat) : Int) := by rw [tdiv_pos (by omega)]; omega
  generalize hL : (n + 3) / 4 = L at *
  simp [q3, w00]
  repeat' (first
    | (refine And.intro (by omega) ?_)
    | (refine goTest_dec (fun q4 => ?_) (fun q4 => ?_)))
  · rw [hno2 (by omega)]
    simp [q4]
    exact Ends.mk [] [] (by simp [optC, zChunk_v])
  simp [q4]
  refine ⟨by omega, ?_⟩
  have hz := zerosB_iff (s := s) (a := i + n) (b := i + L * 4) (by omega)
  refine go_loop (fun j => { env := [(0, .str s), (1, .int .i64 (i : Nat)), (4, .ptr 4 0), (7, .int .i64 (n : Nat)), (9, .int .i64 ((i + L * 4 : Nat) : Int)), (10, .int .i64 ((i + n + j : Nat) : Int))], loc := [], box := [(4, [.undef, .undef, .undef])], stat := [] }) (fun j => n + j ≤ L * 4 ∧ ∀ m, i + n ≤ m → m < i + n + j → nth s m = 0) (fun j => L * 4 - j) 0 ⟨by omega, by omega⟩ (Weak.of [] [(4, 4)] (by simp)) ?_
  rintro j ⟨hj, hall⟩
  simp
  refine goTest_dec (fun q5 => ?_) (fun q5 => ?_)
  · have w6 : ((i : Int) + (n : Int) + (j : Int)).toNat = i + n + j := by omega
    have w7 : s.getD (i + n + j) 0 = nth s (i + n + j) := getD_nth (by omega)
    simp [w6, w7]
    refine ⟨by omega, goTest_dec (fun q6 => ?_) (fun q6 => ?_)⟩
    · have q7 : nth s (i + n + j) = 0 := by
        have := UInt8.toNat_inj.1 (show (nth s (i + n + j)).toNat = (0 : UInt8).toNat by simpa using q6)
        exact this
      simp [q6]
      refine ⟨by omega, Again.mk (j + 1) ⟨by omega, ?_⟩ (by omega) (Weak.of [] [(4, 4)] (by simp; omega))⟩
      intro m h1 h2
      rcases Nat.lt_or_ge m (i + n + j) with h | h
      · exact hall m h1 h
      · obtain rfl : m = i + n + j := by omega
        exact q7
    · have q7 : ¬ nth s (i + n + j) = 0 := fun e => q6 (by rw [e]; rfl)
      rw [hno2 (fun q => q7 (hz.1 q.2.2.2 _ (by omega) (by omega)))]
      simp [q6]
      exact Ends.mk [] [] (by simp [optC, zChunk_v])
  · have hzz := hz.2 (fun m h1 h2 => hall m h1 (by omega))
    rw [hyes ⟨by omega, by omega, by omega, hzz⟩]
    have w1 : IntKind.i64.wrap ((s.getD i 0).toNat : Int) = (nth s i).toNat := by rw [wrap_u8, getD_nth (by omega)]
    have w2 : IntKind.i64.wrap ((s.getD (i + 1) 0).toNat : Int) = (nth s (i + 1)).toNat := by rw [wrap_u8, getD_nth (by omega)]
    have w3 : ((i : Int) + 4).toNat = i + 4 := by omega
    have w4 : ((i : Int) + (n : Int)).toNat = i + n := by omega
    have ev : (chunkOf s i n).v = .agg [.int .i64 (nth s i).toNat, .int .i64 (nth s (i + 1)).toNat, .str (List.drop (i + 4) (List.take (i + n) s))] := rfl
    simp [w1, w2, w3, w4]
    repeat' (first
      | (refine And.intro (by omega) ?_))
    refine Ends.mk [] [] ?_
    simp [optC, ev]
end
section
set_option maxRecDepth 200000
set_option maxHeartbeats 4000000
attribute [-simp] List.getD_eq_getElem?_getD
def chunksAt (s : List UInt8) : Nat → Nat → List Chunk → Option (List Chunk)
  | 0, _, acc => some acc
  | f + 1, i, acc => if i < s.length then (match chunkAt s i with
    | none => none
    | some (c, j) => chunksAt s f j (acc ++ [c])) else some acc
theorem chunkAt_some {s : List UInt8} {i j : Nat} {c : Chunk} (h : chunkAt s i = some (c, j)) : i + 4 ≤ j ∧ j ≤ s.length ∧ c.ok = true := by
  unfold chunkAt at h
  split at h
  · rename_i q
    obtain ⟨n, hn⟩ := Int.eq_ofNat_of_zero_le (at16_lt s (i + 2)).1
    rw [hn] at h q
    simp at h q
    obtain ⟨rfl, rfl⟩ := h
    have := (putC_of (s := s) (i := i) (n := n) q.1 hn (by omega) (by omega)).2.2
    exact ⟨by omega, by omega, this⟩
  · cases h
def packOf (s : List UInt8) (cs : List Chunk) : Packet := ⟨at16 s 0, at16 s 2, at32 s 4, cs⟩
def getP (s : List UInt8) : Packet × Int :=
  if s.length < 12 then (zPacket, 1) else
  if at32 s 8 ≠ sumP s then (zPacket, 2) else
  match chunksAt s s.length 12 [] with
  | none => (zPacket, 3)
  | some cs => if (packOf s cs).ok then (packOf s cs, 0) else (zPacket, 3)
theorem zPacket_v : zPacket.v = .agg [.int .i64 0, .int .i64 0, .int .i64 0, .sl none 3 []] := rfl
theorem packOf_v (s : List UInt8) (cs : List Chunk) : (packOf s cs).v = .agg [.int .i64 (at16 s 0), .int .i64 (at16 s 2), .int .i64 (at32 s 4), .sl none 3 (cs.map Chunk.v)] := rfl
def resP (r : Packet × Int) : V := .tup [r.1.v, .int .i64 r.2]
theorem spec_PacketGet_ok (s : List UInt8) (hs : s.length ≤ 1000000) : Fn Tryz.prog fn_spec_PacketGet [.str s] [] (resP (getP s)) [] := by
  refine Fn.of_go ln_spec_PacketGet rfl ?_
  simp [ac_spec_PacketGet]
  refine goTest_dec (fun q1 => ?_) (fun q1 => ?_)
  · have e : getP s = (zPacket, 1) := by unfold getP; rw [if_pos (by omega)]
    rw [e]
    simp [q1]
    exact Ends.mk [] [] (by simp [resP, zPacket_v])
  have f0 := l1At_ok s 0 (by omega) (by omega)
  have f2 := l1At_ok s 2 (by omega) (by omega)
  have f4 := l1At_ok s 4 (by omega) (by omega)
  have f6 := l1At_ok s 6 (by omega) (by omega)
  have f8 := l1At_ok s 8 (by omega) (by omega)
  have f10 := l1At_ok s 10 (by omega) (by omega)
  have fs := l13Sum_ok s (by omega) (by omega)
  have b0 := at16_lt s 0
  have b2 := at16_lt s 2
  have b4 := at16_lt s 4
  have b6 := at16_lt s 6
  have b8 := at16_lt s 8
  have b10 := at16_lt s 10
  have h32 : at32 s 8 = 65536 * at16 s 8 + at16 s 10 := rfl
  have h34 : at32 s 4 = 65536 * at16 s 4 + at16 s 6 := rfl
  simp at f0 f2 f4 f6 f8 f10
  simp [q1]
  refine goCall_eq f8 (by simp) ?_
  simp
  refine ⟨by omega, ?_⟩
  refine goCall_eq f10 (by simp) ?_
  simp
  refine ⟨by omega, ?_⟩
  refine goCall_eq fs (by simp) ?_
  simp
  rw [← h32]
  refine goTest_dec (fun q2 => ?_) (fun q2 => ?_)
  · simp [q2]
    refine goCall_eq f0 (by simp) ?_
    simp
    refine goCall_eq f2 (by simp) ?_
    simp
    refine goCall_eq f4 (by simp) ?_
    simp
    refine ⟨by omega, ?_⟩
    refine goCall_eq f6 (by simp) ?_
    simp
    refine ⟨by omega, ?_⟩
    rw [← h34]
    obtain ⟨tot, htot⟩ : ∃ tot, chunksAt s s.length 12 [] = tot := ⟨_, rfl⟩
    have he3 : tot = none → getP s = (zPacket, 3) := fun h => by
      unfold getP; rw [if_neg (by omega), if_neg (by simpa using q2), htot, h]
    have he4 : ∀ {cs}, tot = some cs → getP s = if (packOf s cs).ok then (packOf s cs, 0) else (zPacket, 3) := fun h => by
      unfold getP; rw [if_neg (by omega), if_neg (by simpa using q2), htot, h]
    refine go_loop (fun x : Nat × Nat × List Chunk => { env := [(0, .str s), (2, .ptr 2 0), (4, .ptr 4 0), (5, .int .i64 (x.2.1 : Nat))], loc := [], box := [(2, List.replicate 4 .undef), (4, [.int .i64 (at16 s 0), .int .i64 (at16 s 2), .int .i64 (at32 s 4), .sl (some 0) 3 (x.2.2.map Chunk.v)])], stat := [(0, some (.own x.2.2.length 3))] })
      (fun x => chunksAt s x.1 x.2.1 x.2.2 = tot ∧ s.length ≤ x.2.1 + x.1 ∧ 12 ≤ x.2.1 ∧ x.2.1 ≤ s.length ∧ x.2.2.length ≤ x.2.1) (fun x => s.length - x.2.1) (s.length, 12, []) ⟨htot, by simp, by simp, by simp; omega, by simp⟩ (Weak.of [(0, some 528, 0, 3)] [(2, 2), (4, 4)] (by simp [List.replicate])) ?_
    rintro ⟨f, i, acc⟩ ⟨hc, hf, h12, hil, hal⟩
    simp at hc hf h12 hil hal
    simp
    refine goTest_dec (fun hlt => ?_) (fun hge => ?_)
    · have g1 := spec_ChunkGet_ok s i hs (by omega)
      obtain ⟨f, rfl⟩ : ∃ g, f = g + 1 := ⟨f - 1, by omega⟩
      simp only [chunksAt] at hc
      rw [if_pos hlt] at hc
      cases hk : chunkAt s i with
      | none =>
        rw [hk] at g1 hc
        simp [optC, zChunk_v] at g1
        simp at hc
        simp
        refine goCall_eq g1 (by simp) ?_
        simp
        rw [he3 hc.symm]
        exact Ends.mk [] [] (by simp [resP, zPacket_v])
      | some z =>
        obtain ⟨c, j⟩ := z
        rw [hk] at g1 hc
        obtain ⟨j1, j2, -⟩ := chunkAt_some hk
        simp [optC, chunk_v] at g1
        simp at hc
        simp
        refine goCall_eq g1 (by simp) ?_
        simp
        refine ⟨by unfold roomOk; omega, Again.mk (f, j, acc ++ [c]) ⟨hc, by simp; omega, by simp; omega, by simp; omega, by simp; omega⟩ (by simp; omega) (Weak.of [(0, some 0, acc.length + 1, 3)] [(2, 2), (4, 4)] ?_)⟩
        simp [chunk_v]
    · have hta : some acc = tot := by
        rw [← hc]
        cases f with
        | zero => rfl
        | succ f => simp only [chunksAt]; rw [if_neg (by omega)]
      have g2 := spec_PacketValid_ok (packOf s acc) (by simp [packOf]; omega)
      simp only [packOf_v] at g2
      simp
      refine goCall_gen [] [] [] [0] none g2 (by simp) ?_
      simp
      rw [he4 hta.symm]
      cases hok : (packOf s acc).ok
      · simp
        exact Ends.mk [] [] (by simp [resP, zPacket_v])
      · simp
        exact Ends.mk [] [] (by simp [resP, packOf_v])
  · have e : getP s = (zPacket, 2) := by unfold getP; rw [if_neg (by omega), if_pos q2]
    rw [e]
    simp [q2]
    exact Ends.mk [] [] (by simp [resP, zPacket_v])
theorem impl_PacketGet_ok (s : List UInt8) (hs : s.length ≤ 1000000) : Fn Tryz.prog fn_impl_PacketGet [.str s] [] (resP (getP s)) [] := by
  refine Fn.of_go ln_impl_PacketGet rfl ?_
  simp [ac_impl_PacketGet]
  refine goTest_dec (fun q1 => ?_) (fun q1 => ?_)
  · have e : getP s = (zPacket, 1) := by unfold getP; rw [if_pos (by omega)]
    rw [e]
    simp [q1]
    exact Ends.mk [] [] (by simp [resP, zPacket_v])
  have f0 := WordGet_ok s 0 (by omega) (by omega)
  have f2 := WordGet_ok s 2 (by omega) (by omega)
  have f4 := LongGet_ok s 4 (by omega) (by omega)
  have f8 := LongGet_ok s 8 (by omega) (by omega)
  have fs := SumText_ok (s.take 8 ++ 0 :: 0 :: 0 :: 0 :: s.drop 12) (by simp; omega)
  rw [show sumS (s.take 8 ++ 0 :: 0 :: 0 :: 0 :: s.drop 12) = sumP s from rfl] at fs
  simp at f0 f2 f4 f8
  simp [q1]
  refine goCall_eq f8 (by simp) ?_
  simp
  repeat' (first | (refine And.intro (by first | omega | (simp; omega)) ?_))
  refine goDCall_eq fs (by simp) (by simp) ?_
  simp
  rw [show (decide (sumP s = at32 s 8)) = decide (at32 s 8 = sumP s) from by rw [decide_eq_decide]; exact eq_comm]
  refine goTest_dec (fun q2 => ?_) (fun q2 => ?_)
  · simp [q2]
    refine goCall_eq f0 (by simp) ?_
    simp
    refine goCall_eq f2 (by simp) ?_
    simp
    refine goCall_eq f4 (by simp) ?_
    simp
    obtain ⟨tot, htot⟩ : ∃ tot, chunksAt s s.length 12 [] = tot := ⟨_, rfl⟩
    have he3 : tot = none → getP s = (zPacket, 3) := fun h => by
      unfold getP; rw [if_neg (by omega), if_neg (by simpa using q2), htot, h]
    have he4 : ∀ {cs}, tot = some cs → getP s = if (packOf s cs).ok then (packOf s cs, 0) else (zPacket, 3) := fun h => by
      unfold getP; rw [if_neg (by omega), if_neg (by simpa using q2), htot, h]
    refine go_loop (fun x : Nat × Nat × List Chunk => { env := [(0, .str s), (2, .ptr 2 0), (6, .ptr 6 0), (7, .int .i64 (x.2.1 : Nat))], loc := [], box := [(2, List.replicate 4 .undef), (6, [.int .i64 (at16 s 0), .int .i64 (at16 s 2), .int .i64 (at32 s 4), .sl (some 0) 3 (x.2.2.map Chunk.v)])], stat := [(0, some (.own x.2.2.length 3))] })
      (fun x => chunksAt s x.1 x.2.1 x.2.2 = tot ∧ s.length ≤ x.2.1 + x.1 ∧ 12 ≤ x.2.1 ∧ x.2.1 ≤ s.length ∧ x.2.2.length ≤ x.2.1) (fun x => s.length - x.2.1) (s.length, 12, []) ⟨htot, by simp, by simp, by simp; omega, by simp⟩ (Weak.of [(0, none, 0, 3)] [(2, 2), (6, 6)] (by simp [List.replicate])) ?_
    rintro ⟨f, i, acc⟩ ⟨hc, hf, h12, hil, hal⟩
    simp at hc hf h12 hil hal
    simp
    refine goTest_dec (fun hlt => ?_) (fun hge => ?_)
    · have g1 := impl_ChunkGet_ok s i hs (by omega)
      obtain ⟨f, rfl⟩ : ∃ g, f = g + 1 := ⟨f - 1, by omega⟩
      simp only [chunksAt] at hc
      rw [if_pos hlt] at hc
      cases hk : chunkAt s i with
      | none =>
        rw [hk] at g1 hc
        simp [optC, zChunk_v] at g1
        simp at hc
        simp
        refine goCall_eq g1 (by simp) ?_
        simp
        rw [he3 hc.symm]
        exact Ends.mk [] [] (by simp [resP, zPacket_v])
      | some z =>
        obtain ⟨c, j⟩ := z
        rw [hk] at g1 hc
        obtain ⟨j1, j2, -⟩ := chunkAt_some hk
        simp [optC, chunk_v] at g1
        simp at hc
        simp
        refine goCall_eq g1 (by simp) ?_
        simp
        refine ⟨by unfold roomOk; omega, Again.mk (f, j, acc ++ [c]) ⟨hc, by simp; omega, by simp; omega, by simp; omega, by simp; omega⟩ (by simp; omega) (Weak.of [(0, some 0, acc.length + 1, 3)] [(2, 2), (6, 6)] ?_)⟩
        simp [chunk_v]
    · have hta : some acc = tot := by
        rw [← hc]
        cases f with
        | zero => rfl
        | succ f => simp only [chunksAt]; rw [if_neg (by omega)]
      have g2 := impl_PacketValid_ok (packOf s acc) (by simp [packOf]; omega)
      simp only [packOf_v] at g2
      simp
      refine goCall_gen [] [] [] [0] none g2 (by simp) ?_
      simp
      rw [he4 hta.symm]
      cases hok : (packOf s acc).ok
      · simp
        exact Ends.mk [] [] (by simp [resP, zPacket_v])
      · simp
        exact Ends.mk [] [] (by simp [resP, packOf_v])
  · have e : getP s = (zPacket, 2) := by unfold getP; rw [if_neg (by omega), if_pos q2]
    rw [e]
    simp [q2]
    exact Ends.mk [] [] (by simp [resP, zPacket_v])
end
section
set_option maxRecDepth 200000
set_option maxHeartbeats 4000000
attribute [-simp] List.getD_eq_getElem?_getD
theorem packet_bd {p : Packet} (h : p.ok = true) : (1 ≤ p.src ∧ p.src ≤ 65535) ∧ (1 ≤ p.dst ∧ p.dst ≤ 65535) ∧ (0 ≤ p.tag ∧ p.tag ≤ 4294967295) ∧ (1 ≤ p.chunks.length ∧ p.chunks.length ≤ 4) ∧ (∀ c ∈ p.chunks, c.ok = true) ∧ p.src ≠ p.dst := by
  simp only [Packet.ok, inB, Bool.and_eq_true, decide_eq_true_eq, List.all_eq_true] at h
  obtain ⟨⟨⟨⟨⟨h1, h2⟩, h3⟩, h4⟩, h5⟩, h6⟩ := h
  exact ⟨h2, h3, h5, by omega, h1, h4⟩
def headI (p : Packet) (i : Nat) : List UInt8 := put16 p.src ++ (put16 p.dst ++ (put32 p.tag ++ (0 :: 0 :: 0 :: 0 :: (p.chunks.take i).flatMap putC)))
def headP (p : Packet) : List UInt8 := headI p p.chunks.length
def textP (p : Packet) : List UInt8 := if p.ok then (headP p).take 8 ++ (put32 (sumP (headP p)) ++ (headP p).drop 12) else []
theorem headI_snoc {p : Packet} {i : Nat} (h : i < p.chunks.length) : headI p (i + 1) = headI p i ++ putC (nth p.chunks i) := by
  simp [headI, take_nth h]
theorem headI_len {p : Packet} (h : ∀ c ∈ p.chunks, c.ok = true) : ∀ i : Nat, i ≤ p.chunks.length → 12 ≤ (headI p i).length ∧ (headI p i).length ≤ 12 + 64 * i
  | 0, _ => by simp [headI, put16_len, put32_len]
  | i + 1, hi => by
    have ih := headI_len h i (by omega)
    have hc := h _ (nth_mem (show i < p.chunks.length by omega))
    have hcb : (nth p.chunks i).body.length ≤ 60 := by simp only [Chunk.ok, Bool.and_eq_true, decide_eq_true_eq] at hc; exact hc.2
    rw [headI_snoc (by omega), List.length_append, putC_len]
    omega
theorem sumP_rng (s : List UInt8) : 0 ≤ sumP s ∧ sumP s ≤ 4294967295 := by
  have := sumF_lt (s.take 8 ++ 0 :: 0 :: 0 :: 0 :: s.drop 12) (1, 0) (by simp) (by simp)
  unfold sumP sumS
  omega
theorem l13Put_ok (p : Packet) (hp : p.ok = true) : Fn Tryz.prog fn_spec_l13Put [p.v] [] (.str (textP p)) [] := by
  refine Fn.of_go ln_spec_l13Put rfl ?_
  obtain ⟨h1, h2, h3, h4, h5, -⟩ := packet_bd hp
  obtain ⟨a, ha⟩ := Int.eq_ofNat_of_zero_le (show 0 ≤ p.src by omega)
  obtain ⟨b, hb⟩ := Int.eq_ofNat_of_zero_le (show 0 ≤ p.dst by omega)
  obtain ⟨g, hg⟩ := Int.eq_ofNat_of_zero_le h3.1
  have f1 := l1Word_ok a (by omega)
  have f2 := l1Word_ok b (by omega)
  have f3 := l1Long_ok g (by omega)
  have h0 : headI p 0 = put16 a ++ (put16 b ++ (put32 g ++ [0, 0, 0, 0])) := by simp [headI, ha, hb, hg]
  simp [ac_spec_l13Put, packet_v, ha, hb, hg]
  refine goDCall_eq f1 (by simp) (by simp) ?_
  simp
  refine goDCall_eq f2 (by simp) (by simp) ?_
  simp
  repeat' (first | (refine And.intro (by simp [put16_len]) ?_))
  refine goDCall_eq f3 (by simp) (by simp) ?_
  simp
  repeat' (first | (refine And.intro (by simp [put16_len, put32_len]) ?_))
  refine go_loop (fun i : Nat => { env := [(1, .ptr 1 0), (3, .str (headI p i)), (4, .int .i64 (i : Nat))], loc := [], box := [(1, [.undef, .undef, .undef, .sl none 3 (p.chunks.map Chunk.v)])], stat := [] }) (fun i => i ≤ p.chunks.length) (fun i => p.chunks.length - i) 0 (by omega) (Weak.of [] [(1, 1)] (by simp [h0])) ?_
  intro i hi
  have hlen := headI_len h5 i hi
  simp
  refine goTest_dec (fun hlt => ?_) (fun hge => ?_)
  · have hc := h5 _ (nth_mem hlt)
    have g1 := l11Put_ok _ hc
    have hL := putC_len (nth p.chunks i)
    have hcb : (nth p.chunks i).body.length ≤ 60 := by simp only [Chunk.ok, Bool.and_eq_true, decide_eq_true_eq] at hc; exact hc.2
    have hs := headI_snoc hlt
    simp only [chunk_v] at g1
    simp [hlt, chunk_v]
    refine goCall_eq g1 (by simp) ?_
    simp
    refine ⟨by omega, by omega, Again.mk (i + 1) hlt (by omega) (Weak.of [] [(1, 1)] (by simp [hs]))⟩
  · obtain rfl : i = p.chunks.length := by omega
    have g1 := l13Sum_ok (headI p p.chunks.length) (by omega) (by omega)
    have hsr := sumP_rng (headI p p.chunks.length)
    have ht : textP p = (headI p p.chunks.length).take 8 ++ (put32 (sumP (headI p p.chunks.length)) ++ (headI p p.chunks.length).drop 12) := by unfold textP; rw [if_pos hp]; rfl
    obtain ⟨m, hm⟩ := Int.eq_ofNat_of_zero_le hsr.1
    rw [ht]
    rw [hm] at g1 ⊢
    have g2 := l1Long_ok m (by omega)
    simp
    repeat' (first | (refine And.intro (by omega) ?_))
    refine goDCall_eq g1 (by simp) (by simp) ?_
    simp
    refine goDCall_eq g2 (by simp) (by simp) ?_
    simp
    repeat' (first | (refine And.intro (by first | omega | (simp [put32_len]; omega)) ?_))
    exact Ends.mk [] [] (by simp)
theorem spec_PacketPut_ok (p : Packet) (hp : p.chunks.length ≤ 1000000) : Fn Tryz.prog fn_spec_PacketPut [p.v] [] (.str (textP p)) [] := by
  refine Fn.of_go ln_spec_PacketPut rfl ?_
  have f1 := spec_PacketValid_ok p hp
  simp only [packet_v] at f1
  simp [ac_spec_PacketPut, packet_v]
  refine goCall_eq f1 (by simp) ?_
  simp
  cases hok : p.ok
  · have ht : textP p = [] := by unfold textP; rw [if_neg (by simp [hok])]
    rw [ht]
    simp
    exact Ends.mk [] [] (by simp)
  · simp
    have f2 := l13Put_ok p hok
    simp only [packet_v] at f2
    refine goCall_eq f2 (by simp) ?_
    simp
    exact Ends.mk [] [] (by simp)
inductive PkR (src : List UInt8) (a k : Int) : V → List (List V) → Prop
  | mk (p : Packet) (b : Int) (h : p.chunks.length ≤ 9) (h2 : ∀ c ∈ p.chunks, c.body.length ≤ 1000) (hb : a ≤ b ∧ b ≤ a + k) : PkR src a k p.v [[bsl src, .int .i64 b]]
end
section
set_option maxRecDepth 200000
set_option maxHeartbeats 4000000
attribute [-simp] List.getD_eq_getElem?_getD
theorem own_c (x : Assoc) : x.own 0 1 = [.int .i64 x.src, .int .i64 x.dst, .int .i64 x.state, .bool x.byB, .int .i64 x.a.tag, .int .i64 x.a.streams, .int .i64 x.a.first, .sl (some 0) 7 (x.a.sent.map Part.v), .int .i64 x.a.acked, .int .i64 x.b.tag, .int .i64 x.b.streams, .int .i64 x.b.first, .sl (some 1) 7 (x.b.sent.map Part.v), .int .i64 x.b.acked] := rfl
theorem EndsO_ite {rs : List ARes} {st : St} {c : Prop} [Decidable c] {a b : Assoc × Int} (h1 : c → Ends rs (.int .i64 a.2) [a.1.own 0 1] st) (h2 : ¬ c → Ends rs (.int .i64 b.2) [b.1.own 0 1] st) : Ends rs (.int .i64 (if c then a else b).2) [(if c then a else b).1.own 0 1] st := by
  split
  · exact h1 ‹_›
  · exact h2 ‹_›
theorem stepHello_F {x : Assoc} {c : Chunk} (hx : x.ok = true) (hk : c.kind = 1 ∨ c.kind = 2) : stepHello x false c = ((if c.kind = 2 then (x, 3) else if ¬ (0 ≤ x.state ∧ x.state ≤ 2) then (x, 3) else
    match getHello c with
    | none => (x, 4)
    | some h => if x.state = 0 then ({ x with state := 1, a := ⟨h.tag, h.streams, h.tsn, x.a.sent, x.a.acked⟩ }, 0) else if h.tag ≠ x.a.tag ∨ h.streams ≠ x.a.streams ∨ h.tsn ≠ x.a.first then (x, 7) else (x, 0)) : Assoc × Int) := by
  have hs := Assoc.ok_state hx
  obtain ⟨-, -, -, -, h5, -, h7, -⟩ := (assoc_iff x).1 hx
  have ht := Side.ok_tag h5
  by_cases k2 : c.kind = 2
  · rw [if_pos k2]; simp [stepHello, k2]
  · have k1 : c.kind = 1 := by omega
    rw [if_neg k2]
    by_cases q : 0 ≤ x.state ∧ x.state ≤ 2
    · rw [if_neg (by simpa using q)]
      by_cases q0 : x.state = 0
      · obtain ⟨-, -, z3, z4⟩ := (side_zero (s := x.a) (by omega)).1 h5
        cases hg : getHello c <;> simp [stepHello, k1, q0, hg, Assoc.with, Assoc.side, z3, z4]
      · rcases (by omega : x.state = 1 ∨ x.state = 2) with q1 | q1 <;> cases hg : getHello c <;> simp [stepHello, k1, q1, hg, Assoc.side]
    · rw [if_pos q]; simp [stepHello, k1]; intros; omega
theorem stepHello_T {x : Assoc} {c : Chunk} (hx : x.ok = true) (hk : c.kind = 1 ∨ c.kind = 2) : stepHello x true c = ((if ¬ c.kind = 2 then (x, 3) else if ¬ (1 ≤ x.state ∧ x.state ≤ 2) then (x, 3) else
    match getHello c with
    | none => (x, 4)
    | some h => if x.state = 1 then ({ x with state := 2, b := ⟨h.tag, h.streams, h.tsn, x.b.sent, x.b.acked⟩ }, 0) else if h.tag ≠ x.b.tag ∨ h.streams ≠ x.b.streams ∨ h.tsn ≠ x.b.first then (x, 7) else (x, 0)) : Assoc × Int) := by
  have hs := Assoc.ok_state hx
  obtain ⟨-, -, -, -, -, h5, -, h7, -⟩ := (assoc_iff x).1 hx
  have ht := Side.ok_tag h5
  by_cases k2 : c.kind = 2
  · rw [if_neg (by omega)]
    by_cases q : 1 ≤ x.state ∧ x.state ≤ 2
    · rw [if_neg (by simpa using q)]
      by_cases q0 : x.state = 1
      · obtain ⟨-, -, z3, z4⟩ := (side_zero (s := x.b) (by omega)).1 h5
        cases hg : getHello c <;> simp [stepHello, k2, q0, hg, Assoc.with, Assoc.side, z3, z4]
      · have q1 : x.state = 2 := by omega
        cases hg : getHello c <;> simp [stepHello, k2, q1, hg, Assoc.side]
    · rw [if_pos q]; simp [stepHello, k2]; intros; omega
  · rw [if_pos k2]; simp [stepHello, k2]
theorem greet_ok (x : Assoc) (byB : Bool) (c : Chunk) (hb : c.body.length ≤ 1000000) (hx : x.ok = true) (hk : c.kind = 1 ∨ c.kind = 2) :
    Fn Tryz.prog fn_impl_Assoc_greet [.ptr 1000 0, c.v, .bool byB, .ptr 1000 (if byB then 9 else 4)] [x.own 0 1] (.int .i64 (stepHello x byB c).2) [(stepHello x byB c).1.own 0 1] := by
  refine Fn.of_go ln_impl_Assoc_greet rfl ?_
  have f1 := impl_InitGet_ok c hb
  have hs := Assoc.ok_state hx
  simp only [chunk_v] at f1
  cases byB
  all_goals
    first | rw [stepHello_F hx hk] | rw [stepHello_T hx hk]
    cases hg : getHello c with
    | none =>
      rw [hg] at f1
      simp [optV, zHello_v] at f1
      simp [ac_impl_Assoc_greet, chunk_v, own_c]
      repeat' (first
        | (exfalso; omega)
        | (refine goTest_dec (fun q => ?_) (fun q => ?_) <;> simp [q])
        | (refine goCall_eq f1 (by simp) ?_; simp)
        | (rw [‹c.kind = _›] at f1; refine goCall_eq f1 (by simp) ?_; simp)
        | (refine EndsO_ite (fun q => ?_) (fun q => ?_))
        | (refine Ends.mk [(0, some 0, x.a.sent.length, 7), (1, some 1, x.b.sent.length, 7)] [(1000, 1000)] ?_; simp [own_c, *] <;> fail))
    | some h =>
      rw [hg] at f1
      simp [optV, hi_v] at f1
      simp [ac_impl_Assoc_greet, chunk_v, own_c]
      repeat' (first
        | (exfalso; omega)
        | (refine goTest_dec (fun q => ?_) (fun q => ?_) <;> simp [q])
        | (refine goCall_eq f1 (by simp) ?_; simp)
        | (rw [‹c.kind = _›] at f1; refine goCall_eq f1 (by simp) ?_; simp)
        | (refine And.intro (by omega) ?_)
        | (refine EndsO_ite (fun q => ?_) (fun q => ?_))
        | (refine Ends.mk [(0, some 0, x.a.sent.length, 7), (1, some 1, x.b.sent.length, 7)] [(1000, 1000)] ?_; simp [own_c, *] <;> fail))
end
end Go.Proofs.YtjkbbdmkgealfaaGreatDoor
