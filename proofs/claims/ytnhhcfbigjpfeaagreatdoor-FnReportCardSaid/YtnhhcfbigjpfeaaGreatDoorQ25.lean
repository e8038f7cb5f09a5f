/-
  The laws of monitors, in plain terms.
  Talks: their types, which are valid, how many parts they have.
  One chunk, by the program: receipts.
  One chunk, by the program: parts.
  One chunk, by the program.
  A packet, by the program.
  Captures and monitors, by the reference.
-/
import Derived.Test.YtnhhcfbigjpfeaaGreatDoorQ24
import Derived.Test.YtnhhcfbigjpfeaaGreatDoorQ23
import Derived.Test.YtnhhcfbigjpfeaaGreatDoorQ22
namespace Go.Proofs.YtnhhcfbigjpfeaaGreatDoor
set_option linter.all false

section
set_option maxRecDepth 20000
set_option maxHeartbeats 1000000
attribute [-simp] List.getD_eq_getElem?_getD

theorem erase_len {l : List Assoc} {i : Nat} (hi : i < l.length) : (l.eraseIdx i).length = l.length - 1 := List.length_eraseIdx_of_lt hi

/-! ## Runs -/

structure Tap where
  time : Int
  text : List UInt8
deriving DecidableEq, Inhabited

def Tap.cells (r : Tap) : List V := [.int .i64 r.time, .str r.text]
def Tap.v (r : Tap) : V := .agg r.cells
def rsl (l : List Tap) : V := .sl none 2 (l.map Tap.v)
theorem rec_v (r : Tap) : r.v = .agg [.int .i64 r.time, .str r.text] := rfl

def timesOk : Int → List Tap → Bool
  | _, [] => true
  | t, r :: l => decide (t ≤ r.time) && decide (r.time ≤ 4294967295) && decide (r.text.length ≤ 120) && timesOk r.time l
def capOk (l : List Tap) : Bool := timesOk 0 l && decide (l.length ≤ 60)

def foldM (m : Monitor) (l : List Tap) : Monitor := l.foldl (fun m r => monStep m r.text) m
def runS (l : List Tap) : Monitor := if capOk l then foldM zMonitor l else zMonitor

theorem foldM_snoc (m : Monitor) (l : List Tap) (r : Tap) : foldM m (l ++ [r]) = monStep (foldM m l) r.text := by simp [foldM]
theorem foldM_ok : ∀ (l : List Tap) {m : Monitor}, MonOk m → m.records + l.length ≤ 60 → MonOk (foldM m l)
  | [], m, h, _ => h
  | r :: l, m, h, hl => by
    simp at hl
    exact foldM_ok l (monStep_ok h (by omega) r.text) (by show m.records + 1 + _ ≤ 60; omega)

theorem timesOk_append : ∀ (l k : List Tap) (t : Int), timesOk t (l ++ k) = (timesOk t l && timesOk ((l.getLast?.map Tap.time).getD t) k)
  | [], k, t => by simp [timesOk]
  | r :: l, k, t => by
    have ih := timesOk_append l k r.time
    simp only [List.cons_append, timesOk, ih, Bool.and_assoc]
    cases l with
    | nil => simp [timesOk]
    | cons q s =>
      rw [List.getLast?_cons_cons]
      cases h : (q :: s).getLast? with
      | none => simp at h
      | some u => simp

theorem timesOk_take {l : List Tap} {t : Int} (h : timesOk t l = true) (k : Nat) : timesOk t (l.take k) = true := by
  rw [← List.take_append_drop k l, timesOk_append, Bool.and_eq_true] at h
  exact h.1

theorem capOk_take {l : List Tap} (h : capOk l = true) (k : Nat) : capOk (l.take k) = true := by
  simp only [capOk, Bool.and_eq_true, decide_eq_true_eq] at h ⊢
  exact ⟨timesOk_take h.1 k, by simp; omega⟩

end

section
set_option maxRecDepth 200000
set_option maxHeartbeats 4000000
attribute [-simp] List.getD_eq_getElem?_getD

structure Say where
  byB : Bool
  stream : Int
  loose : Bool
  text : List UInt8
deriving DecidableEq, Inhabited

def Say.cells (s : Say) : List V := [.bool s.byB, .int .i64 s.stream, .bool s.loose, .str s.text]
def Say.v (s : Say) : V := .agg s.cells

structure Talk where
  src : Int
  dst : Int
  a : Hello
  b : Hello
  size : Int
  says : List Say
deriving DecidableEq, Inhabited

def Talk.cells (t : Talk) : List V := [.int .i64 t.src, .int .i64 t.dst] ++ t.a.cells ++ t.b.cells ++ [.int .i64 t.size, .sl none 4 (t.says.map Say.v)]
def Talk.v (t : Talk) : V := .agg t.cells
theorem say_v (s : Say) : s.v = .agg [.bool s.byB, .int .i64 s.stream, .bool s.loose, .str s.text] := rfl
theorem talk_v (t : Talk) : t.v = .agg [.int .i64 t.src, .int .i64 t.dst, .int .i64 t.a.tag, .int .i64 t.a.window, .int .i64 t.a.streams, .int .i64 t.a.tsn, .int .i64 t.b.tag, .int .i64 t.b.window, .int .i64 t.b.streams, .int .i64 t.b.tsn, .int .i64 t.size, .sl none 4 (t.says.map Say.v)] := rfl

/-- A talk that is not long. -/
structure Talk.bd (t : Talk) : Prop where
  says : t.says.length ≤ 1000
  text : ∀ x ∈ t.says, x.text.length ≤ 100000

def manyN (n z : Nat) : Nat := (n + z - 1) / z
def manyL (z : Nat) (b : Bool) : List Say → Nat
  | [] => 0
  | x :: r => (if x.byB = b then manyN x.text.length z else 0) + manyL z b r

theorem manyL_append (z : Nat) (b : Bool) : ∀ l k : List Say, manyL z b (l ++ k) = manyL z b l + manyL z b k
  | [], k => by simp [manyL]
  | x :: r, k => by simp [manyL, manyL_append z b r k, Nat.add_assoc]
theorem manyL_drop {z : Nat} {b : Bool} {l : List Say} {i : Nat} (h : i < l.length) : manyL z b (l.drop i) = (if (nth l i).byB = b then manyN (nth l i).text.length z else 0) + manyL z b (l.drop (i + 1)) := by
  rw [List.drop_eq_getElem_cons h, nth_eq h]; rfl
theorem manyL_take {z : Nat} {b : Bool} {l : List Say} {i : Nat} (h : i < l.length) : manyL z b (l.take (i + 1)) = manyL z b (l.take i) + (if (nth l i).byB = b then manyN (nth l i).text.length z else 0) := by
  rw [take_nth h, manyL_append]; simp [manyL]

theorem many_le {n z : Nat} (hz : 1 ≤ z) : manyN n z ≤ n := by
  unfold manyN
  rcases Nat.eq_zero_or_pos n with rfl | h
  · rw [Nat.div_eq_of_lt (by omega)]; exact Nat.le_refl _
  · calc (n + z - 1) / z ≤ (n * z) / z := Nat.div_le_div_right (by
          have : n + z ≤ n * z + 1 := by
            obtain ⟨m, rfl⟩ : ∃ m, n = m + 1 := ⟨n - 1, by omega⟩
            rw [Nat.succ_mul]
            have := Nat.le_mul_of_pos_right m hz
            omega
          omega)
      _ = n := Nat.mul_div_cancel _ hz
theorem manyL_le {z : Nat} (hz : 1 ≤ z) (b : Bool) {m : Nat} : ∀ l : List Say, (∀ x ∈ l, x.text.length ≤ m) → manyL z b l ≤ m * l.length
  | [], _ => by simp [manyL]
  | x :: r, h => by
    have ih := manyL_le hz b r fun y hy => h y (List.mem_cons_of_mem _ hy)
    have h1 := many_le (n := x.text.length) hz
    have h2 := h x List.mem_cons_self
    simp only [manyL, List.length_cons, Nat.mul_succ]
    split <;> omega

/-- The pieces of a text: with each piece one fewer is left. -/
theorem many_step {n z at' : Nat} (hz : 1 ≤ z) (h : at' < n) : manyN (n - at') z = 1 + manyN (n - (at' + z)) z := by
  unfold manyN
  rcases Nat.lt_or_ge (n - at') (z + 1) with q | q
  · have e1 : n - (at' + z) = 0 := by omega
    rw [e1, Nat.div_eq_of_lt (by omega : 0 + z - 1 < z)]
    have : n - at' + z - 1 = (n - at' - 1) + z := by omega
    rw [this, Nat.add_div_right _ hz, Nat.div_eq_of_lt (by omega)]
  · have : n - at' + z - 1 = (n - (at' + z) + z - 1) + z := by omega
    rw [this, Nat.add_div_right _ hz]; omega
theorem many_zero {z : Nat} (hz : 1 ≤ z) : manyN 0 z = 0 := by unfold manyN; exact Nat.div_eq_of_lt (by omega)

def sayOk (t : Talk) (x : Say) : Bool := inB x.text.length 1 60 && (if x.byB then inB x.stream 0 (t.b.streams - 1) else inB x.stream 0 (t.a.streams - 1))
def Talk.head (t : Talk) : Bool := inB t.src 1 65535 && inB t.dst 1 65535 && decide (t.src ≠ t.dst) && t.a.ok && t.b.ok && inB t.size 1 20
def Talk.ok (t : Talk) : Bool := t.head && t.says.all (sayOk t) && decide (t.says.length ≤ 4) && decide (manyL t.size.toNat false t.says ≤ 12) && decide (manyL t.size.toNat true t.says ≤ 12)

/-- What is known of a valid talk. -/
structure TalkC (t : Talk) : Prop where
  a : t.a.ok = true
  b : t.b.ok = true
  size : 1 ≤ t.size ∧ t.size ≤ 20
  says : t.says.length ≤ 4
  text : ∀ x ∈ t.says, 1 ≤ x.text.length ∧ x.text.length ≤ 60
  ma : manyL t.size.toNat false t.says ≤ 12
  mb : manyL t.size.toNat true t.says ≤ 12

theorem talk_c {t : Talk} (h : t.ok = true) : TalkC t := by
  simp only [Talk.ok, Talk.head, Bool.and_eq_true, decide_eq_true_eq, List.all_eq_true, inB] at h
  obtain ⟨⟨⟨⟨⟨⟨⟨_, ha⟩, hb⟩, hz⟩, hs⟩, hl⟩, h1⟩, h2⟩ := h
  refine ⟨ha, hb, hz, hl, fun x hx => ?_, h1, h2⟩
  have := hs x hx
  simp only [sayOk, inB, Bool.and_eq_true, decide_eq_true_eq] at this
  omega

/-- The parts of a message. -/
def piecesF (z : Nat) (first : Int) (x : Say) (ssn : Int) : Nat → Nat → List Part → List Part
  | 0, _, out => out
  | f + 1, i, out => if i < x.text.length then
      piecesF z first x ssn f (i + z) (out ++ [⟨addS first out.length, x.stream, ssn, decide (i = 0), decide (min (i + z) x.text.length = x.text.length), x.loose, (x.text.take (min (i + z) x.text.length)).drop i⟩]) else out
def ssnF (x : Say) (out : List Part) : Int := if x.loose then 0 else ssnN out x.stream
def sayF (z : Nat) (first : Int) (byB : Bool) (out : List Part) (x : Say) : List Part :=
  if x.byB = byB then piecesF z first x (ssnF x out) x.text.length 0 out else out
def Talk.tsn (t : Talk) (byB : Bool) : Int := if byB then t.b.tsn else t.a.tsn
def partsT (t : Talk) (byB : Bool) : List Part := t.says.foldl (sayF t.size.toNat (t.tsn byB) byB) []

theorem pieces_len {z : Nat} (hz : 1 ≤ z) {first : Int} {x : Say} {ssn : Int} : ∀ (f i : Nat) (out : List Part), x.text.length - i ≤ f → (piecesF z first x ssn f i out).length = out.length + manyN (x.text.length - i) z
  | 0, i, out, h => by
    have : x.text.length - i = 0 := by omega
    simp [piecesF, this, many_zero hz]
  | f + 1, i, out, h => by
    unfold piecesF
    split
    · rename_i hlt
      rw [pieces_len hz f (i + z) _ (by omega), many_step (n := x.text.length) (at' := i) hz hlt]; simp; omega
    · have : x.text.length - i = 0 := by omega
      simp [this, many_zero hz]
theorem say_len {z : Nat} (hz : 1 ≤ z) (first : Int) (byB : Bool) (out : List Part) (x : Say) : (sayF z first byB out x).length = out.length + if x.byB = byB then manyN x.text.length z else 0 := by
  unfold sayF
  split
  · rw [pieces_len hz _ _ _ (by omega)]; simp
  · simp
theorem fold_len {z : Nat} (hz : 1 ≤ z) (first : Int) (byB : Bool) : ∀ (l : List Say) (out : List Part), (l.foldl (sayF z first byB) out).length = out.length + manyL z byB l
  | [], out => by simp [manyL]
  | x :: r, out => by
    rw [List.foldl_cons, fold_len hz first byB r, say_len hz]; simp [manyL]; omega
theorem parts_len {t : Talk} (hz : 1 ≤ t.size) (byB : Bool) : (partsT t byB).length = manyL t.size.toNat byB t.says := by
  unfold partsT; rw [fold_len (by omega)]; simp

/-! ## Packets and records of a talk -/

def packT (t : Talk) (byB : Bool) (cs : List Chunk) : Packet := if byB then ⟨t.dst, t.src, t.a.tag, cs⟩ else ⟨t.src, t.dst, t.b.tag, cs⟩
def oneT (t : Talk) (byB : Bool) (kind : Int) : Packet := packT t byB [⟨kind, 0, []⟩]
def helloT (t : Talk) : List Packet := [{ packT t false [(putHello t.a false).getD zChunk] with tag := 0 }, packT t true [(putHello t.b true).getD zChunk], oneT t false 10, oneT t true 11]
def dataC (d : Part) : Chunk := (putPart d).getD zChunk
def sackC (d : Part) : Chunk := (putSack ⟨d.tsn, []⟩).getD zChunk
/-- So many parts of a side are sent. -/
def sendF (t : Talk) (byB : Bool) : Nat → List Part → List Packet → List Part × List Packet
  | 0, m, out => (m, out)
  | k + 1, m, out => sendF t byB k (m.drop 1) (out ++ [packT t byB [dataC (nth m 0)], packT t (!byB) [sackC (nth m 0)]])
def saysF (t : Talk) : List Say → List Part → List Part → List Packet → List Packet
  | [], _, _, out => out
  | x :: r, a, b, out =>
    if x.byB then saysF t r a (sendF t true (manyN x.text.length t.size.toNat) b out).1 (sendF t true (manyN x.text.length t.size.toNat) b out).2
    else saysF t r (sendF t false (manyN x.text.length t.size.toNat) a out).1 b (sendF t false (manyN x.text.length t.size.toNat) a out).2
def packetsT (t : Talk) : List Packet :=
  if t.ok then saysF t t.says (partsT t false) (partsT t true) (helloT t) ++ [oneT t false 7, oneT t true 8, oneT t false 14] else []

def Short (p : Packet) : Prop := p.chunks.length = 1
theorem short_pack (t : Talk) (byB : Bool) (c : Chunk) : Short (packT t byB [c]) := by cases byB <;> rfl
theorem send_short (t : Talk) (byB : Bool) : ∀ (k : Nat) (m : List Part) (out : List Packet), (∀ p ∈ out, Short p) → (sendF t byB k m out).1 = m.drop k ∧ (sendF t byB k m out).2.length = out.length + 2 * k ∧ ∀ p ∈ (sendF t byB k m out).2, Short p
  | 0, m, out, h => ⟨rfl, rfl, h⟩
  | k + 1, m, out, h => by
    obtain ⟨h1, h2, h3⟩ := send_short t byB k (m.drop 1) (out ++ [packT t byB [dataC (nth m 0)], packT t (!byB) [sackC (nth m 0)]]) (by
      intro p hp
      rcases List.mem_append.1 hp with q | q
      · exact h p q
      · simp at q
        rcases q with rfl | rfl
        · exact short_pack _ _ _
        · exact short_pack _ _ _)
    refine ⟨?_, ?_, h3⟩
    · unfold sendF; rw [h1, List.drop_drop]; congr 1; omega
    · unfold sendF; rw [h2]; simp; omega
theorem says_short (t : Talk) : ∀ (l : List Say) (a b : List Part) (out : List Packet), (∀ p ∈ out, Short p) → (∀ p ∈ saysF t l a b out, Short p) ∧ (saysF t l a b out).length = out.length + 2 * (manyL t.size.toNat false l + manyL t.size.toNat true l)
  | [], a, b, out, h => ⟨h, by simp [saysF, manyL]⟩
  | x :: r, a, b, out, h => by
    unfold saysF
    cases hb : x.byB
    · obtain ⟨h1, h2, h3⟩ := send_short t false (manyN x.text.length t.size.toNat) a out h
      obtain ⟨k1, k2⟩ := says_short t r (sendF t false (manyN x.text.length t.size.toNat) a out).1 b _ h3
      simp only [Bool.false_eq_true, if_false]
      refine ⟨k1, ?_⟩
      rw [k2, h2]; simp [manyL, hb]; omega
    · obtain ⟨h1, h2, h3⟩ := send_short t true (manyN x.text.length t.size.toNat) b out h
      obtain ⟨k1, k2⟩ := says_short t r a (sendF t true (manyN x.text.length t.size.toNat) b out).1 _ h3
      simp only [if_true]
      refine ⟨k1, ?_⟩
      rw [k2, h2]; simp [manyL, hb]; omega
theorem hello_short (t : Talk) : ∀ p ∈ helloT t, Short p := by
  intro p hp
  simp [helloT] at hp
  rcases hp with rfl | rfl | rfl | rfl
  · rfl
  · exact short_pack _ _ _
  · exact short_pack _ _ _
  · exact short_pack _ _ _
theorem packets_short (t : Talk) : (∀ p ∈ packetsT t, Short p) ∧ (packetsT t).length ≤ 60 := by
  unfold packetsT
  split
  · rename_i h
    have hc := talk_c h
    obtain ⟨h1, h2⟩ := says_short t t.says (partsT t false) (partsT t true) (helloT t) (hello_short t)
    have := hc.ma
    have := hc.mb
    refine ⟨?_, ?_⟩
    · intro p hp
      rcases List.mem_append.1 hp with q | q
      · exact h1 p q
      · simp at q
        rcases q with rfl | rfl | rfl <;> exact short_pack _ _ _
    · have h5 : (helloT t).length = 4 := rfl
      rw [List.length_append, h2, h5]; simp; omega
  · simp

def recsF : Int → List Packet → List Tap
  | _, [] => []
  | n, p :: r => ⟨n, textP p⟩ :: recsF (n + 1) r
def recordsT (t : Talk) (n : Int) : List Tap := if 0 ≤ n ∧ capOk (recsF n (packetsT t)) = true then recsF n (packetsT t) else []
theorem recsF_snoc : ∀ (l : List Packet) (n : Int) (p : Packet), recsF n (l ++ [p]) = recsF n l ++ [⟨n + l.length, textP p⟩]
  | [], n, p => by simp [recsF]
  | q :: r, n, p => by
    simp [recsF, recsF_snoc r (n + 1) p]; omega
theorem recsF_len : ∀ (l : List Packet) (n : Int), (recsF n l).length = l.length
  | [], n => rfl
  | q :: r, n => by simp [recsF, recsF_len r]
theorem timesOk_text : ∀ (l : List Tap) (t : Int), timesOk t l = true → ∀ r ∈ l, r.text.length ≤ 120
  | [], t, _, r, hr => by cases hr
  | q :: l, t, h, r, hr => by
    simp only [timesOk, Bool.and_eq_true, decide_eq_true_eq] at h
    rcases List.mem_cons.1 hr with rfl | hr
    · exact h.1.2
    · exact timesOk_text l _ h.2 r hr
theorem records_small (t : Talk) (n : Int) : (recordsT t n).length ≤ 60 ∧ ∀ r ∈ recordsT t n, r.text.length ≤ 120 := by
  unfold recordsT
  split
  · rename_i h
    have := h.2
    simp only [capOk, Bool.and_eq_true, decide_eq_true_eq] at this
    exact ⟨this.2, timesOk_text _ _ this.1⟩
  · simp
end

section
set_option maxRecDepth 200000
set_option maxHeartbeats 4000000
attribute [-simp] List.getD_eq_getElem?_getD


end

section
set_option maxRecDepth 200000
set_option maxHeartbeats 4000000
attribute [-simp] List.getD_eq_getElem?_getD


end

section
set_option maxRecDepth 200000
set_option maxHeartbeats 8000000
attribute [-simp] List.getD_eq_getElem?_getD
end

section
set_option maxRecDepth 200000
set_option maxHeartbeats 8000000
attribute [-simp] List.getD_eq_getElem?_getD


theorem relCs_bools {M : Mp} {S : Stats} {E : Option (List Nat)} {B : Bm} : ∀ (l : List Bool), relCs M S E B (l.map V.bool) (l.map V.bool)
  | [] => trivial
  | a :: l => ⟨rfl, relCs_bools l⟩
theorem boolsV_map (f : Nat → Bool) : boolsV f = ((List.range 12).map f).map V.bool := by simp [boolsV]
@[simp] theorem relCs_boolsV {M : Mp} {S : Stats} {E : Option (List Nat)} {B : Bm} {f : Nat → Bool} : relCs M S E B (boolsV f) (boolsV f) = True := by
  rw [boolsV_map]; exact eq_true (relCs_bools _)
theorem take_bools (f : Nat → Bool) : (boolsV f).take 12 = boolsV f := List.take_of_length_le (by simp [boolsV])
/-- A contract that says less of the result. -/
theorem Fn.weak {P : Program} {f : FuncId} {args : List V} {bi : List (List V)} {R : V} {bo : List (List V)} {R' : V} {bo' : List (List V)} (M : Mp) (B : Bm) (h : Fn P f args bi R bo) (hM : okM (resStat R bo) M) (hN : okN B) (hst : statM M = resStat R' bo') (hrel : relV M (resStat R bo) none B R R') (hB : okB M (resStat R bo) none (boxesOf bo) B (boxesOf bo')) (hB2 : hasB (boxesOf bo') B) (hB3 : keepB B (boxesOf bo)) : Fn P f args bi R' bo' := by
  intro w γ vs hT hH hc
  refine (h w γ vs hT hH hc).mono fun e w' hex => ?_
  obtain ⟨v, γ', rfl, h1, h2⟩ := hex
  exact ⟨v, weakG M B γ', rfl, (weak_H h1 hM hN hB hB2 hB3).stat fun k => by rw [hst], VRel.evo (.stat (fun k => by rw [hst]) _ _) (weak_V (weakG_less h1) hM hrel h2)⟩
end

section
set_option maxRecDepth 200000
set_option maxHeartbeats 4000000
attribute [-simp] List.getD_eq_getElem?_getD

def recOk (r : Tap) (last : Int) : Bool := decide (last ≤ r.time) && decide (r.time ≤ 4294967295) && decide (r.text.length ≤ 120)
theorem timesOk_cons (t : Int) (r : Tap) (l : List Tap) : timesOk t (r :: l) = (recOk r t && timesOk r.time l) := rfl

theorem l14Record_ok (r : Tap) (last : Int) : Fn Tryz.prog fn_spec_l14Record [r.v, .int .i64 last] [] (.bool (recOk r last)) [] := by
  refine Fn.of_go ln_spec_l14Record rfl ?_
  simp [ac_spec_l14Record, rec_v]
  refine goCall_eq (l6In_ok _ _ _) (by simp) ?_
  simp
  have e : recOk r last = (inB r.time last 4294967295 && decide (r.text.length ≤ 120)) := rfl
  cases q : inB r.time last 4294967295
  · rw [q] at e
    simp [e]
    exact Ends.mk [] [] (by simp)
  · rw [q] at e
    simp [e]
    exact Ends.mk [] [] (by simp)

theorem spec_CaptureValid_ok (l : List Tap) (hl : l.length ≤ 1000000) : Fn Tryz.prog fn_spec_CaptureValid [rsl l] [] (.bool (capOk l)) [] := by
  refine Fn.of_go ln_spec_CaptureValid rfl ?_
  simp [ac_spec_CaptureValid, rsl]
  refine go_loop (fun x : Nat × Int => { env := [(0, rsl l), (3, .int .i64 x.2), (4, .int .i64 (x.1 : Nat))], loc := [], box := [], stat := [] }) (fun x => x.1 ≤ l.length ∧ timesOk 0 l = timesOk x.2 (l.drop x.1)) (fun x => l.length - x.1) (0, 0) ⟨by simp, by simp⟩ (Weak.of [] [] (by simp [rsl])) ?_
  rintro ⟨i, last⟩ ⟨hi, ht⟩
  simp at hi ht
  simp [rsl]
  refine goTest_dec (fun hlt => ?_) (fun hge => ?_)
  · rw [drop_nth hlt, timesOk_cons] at ht
    have f1 := l14Record_ok (nth l i) last
    simp only [rec_v] at f1
    simp [hlt, rec_v]
    refine goCall_eq f1 (by simp) ?_
    simp
    refine goTest_bool (fun q => ?_) (fun q => ?_)
    · rw [q, Bool.true_and] at ht
      simp [hlt, rec_v]
      exact ⟨by omega, Again.mk (i + 1, (nth l i).time) ⟨by simp; omega, by simpa using ht⟩ (by simp; omega) (Weak.of [] [] (by simp [rsl]))⟩
    · rw [q, Bool.false_and] at ht
      simp
      exact Ends.mk [] [] (by simp [capOk, ht])
  · obtain rfl : i = l.length := by omega
    simp [timesOk] at ht
    simp
    exact Ends.mk [] [] (by simp [capOk, ht])

/-! ## Monitors -/

def Monitor.own (σ τ : Nat) (m : Monitor) : V := .agg [.int .i64 m.records, .sl (some σ) 14 (m.list.map Assoc.v), .sl (some τ) 2 (m.found.map fV)]
theorem mon_v (m : Monitor) : m.v = .agg [.int .i64 m.records, .sl none 14 (m.list.map Assoc.v), .sl none 2 (m.found.map fV)] := rfl

/-- A monitor that is not long. -/
structure Monitor.bd (m : Monitor) : Prop where
  recs : -1000 ≤ m.records ∧ m.records ≤ 1000000
  len : m.list.length ≤ 1000
  each : ∀ x ∈ m.list, x.bd
  found : m.found.length ≤ 1000000

theorem l32Pair_ok (x y : Assoc) : Fn Tryz.prog fn_spec_l32Pair [x.v, y.v] [] (.bool (meet x.ports y.ports)) [] := by
  refine Fn.of_go ln_spec_l32Pair rfl ?_
  have e : meet x.ports y.ports = ((decide (x.src = y.src) && decide (x.dst = y.dst)) || (decide (x.src = y.dst) && decide (x.dst = y.src))) := rfl
  cases e1 : decide (x.src = y.src) <;> cases e2 : decide (x.dst = y.dst) <;> cases e3 : decide (x.src = y.dst) <;> cases e4 : decide (x.dst = y.src)
  all_goals
    rw [e1, e2, e3, e4] at e
    simp [ac_spec_l32Pair, assoc_v, e1, e2, e3, e4]
    rw [e]
    exact Ends.mk [] [] (by simp)

theorem samePorts_ok (x : Assoc) (a b : Int) : Fn Tryz.prog fn_impl_samePorts [x.v, .int .i64 a, .int .i64 b] [] (.bool (meet x.ports (a, b))) [] := by
  refine Fn.of_go ln_impl_samePorts rfl ?_
  have e : meet x.ports (a, b) = ((decide (x.src = a) && decide (x.dst = b)) || (decide (x.src = b) && decide (x.dst = a))) := rfl
  cases e1 : decide (x.src = a) <;> cases e2 : decide (x.dst = b) <;> cases e3 : decide (x.src = b) <;> cases e4 : decide (x.dst = a)
  all_goals
    rw [e1, e2, e3, e4] at e
    simp [ac_impl_samePorts, assoc_v, e1, e2, e3, e4]
    rw [e]
    exact Ends.mk [] [] (by simp)

theorem findM_hit {l : List Assoc} {a b : Int} {i : Nat} (hi : i < l.length) (hm : meet (nth l i).ports (a, b) = true) (h : ∀ j, j < i → meet (nth l j).ports (a, b) = false) : findM l a b = some i := by
  unfold findM
  rw [List.findIdx?_eq_some_iff_getElem]
  refine ⟨hi, by rw [← nth_eq hi]; exact hm, fun j hj => ?_⟩
  have := h j hj
  rw [nth_eq (by omega)] at this
  simp [this]
theorem findM_miss {l : List Assoc} {a b : Int} (h : ∀ j, j < l.length → meet (nth l j).ports (a, b) = false) : findM l a b = none := by
  unfold findM
  rw [List.findIdx?_eq_none_iff]
  intro x hx
  obtain ⟨j, hj, rfl⟩ := List.getElem_of_mem hx
  have := h j hj
  rwa [nth_eq hj] at this

def idxV (o : Option Nat) : Int := match o with
  | some k => k
  | none => -1

theorem l32Find_ok (m : Monitor) (a b : Int) (hm : m.list.length ≤ 1000) : Fn Tryz.prog fn_spec_l32Find [m.v, .int .i64 a, .int .i64 b] [] (.int .i64 (idxV (findM m.list a b))) [] := by
  refine Fn.of_go ln_spec_l32Find rfl ?_
  simp [ac_spec_l32Find, mon_v]
  refine go_loop (fun i => { env := [(1, .int .i64 a), (2, .int .i64 b), (3, .ptr 3 0), (7, .int .i64 (i : Nat))], loc := [], box := [(3, [.int .i64 m.records, .sl none 14 (m.list.map Assoc.v), .sl none 2 (m.found.map fV)])], stat := [] }) (fun i => i ≤ m.list.length ∧ ∀ j, j < i → meet (nth m.list j).ports (a, b) = false) (fun i => m.list.length - i) 0 ⟨by omega, fun j hj => by omega⟩ (Weak.of [] [(3, 3)] (by simp)) ?_
  rintro i ⟨hi, hno⟩
  simp
  refine goTest_dec (fun hlt => ?_) (fun hge => ?_)
  · have f1 := l32Pair_ok (nth m.list i) ⟨a, b, 0, false, zSide, zSide⟩
    simp only [assoc_v] at f1
    simp [hlt, assoc_v]
    refine goCall_gen [] [] [] [] none f1 (by simp [zSide]) ?_
    simp
    refine goTest_bool (fun q => ?_) (fun q => ?_)
    · rw [findM_hit hlt q hno]
      simp
      exact Ends.mk [] [] (by simp [idxV])
    · simp
      refine ⟨by omega, Again.mk (i + 1) ⟨hlt, fun j hj => ?_⟩ (by omega) (Weak.of [] [(3, 3)] (by simp))⟩
      rcases Nat.lt_succ_iff_lt_or_eq.1 hj with h | rfl
      · exact hno j h
      · exact q
  · obtain rfl : i = m.list.length := by omega
    rw [findM_miss hno]
    simp
    exact Ends.mk [] [] (by simp [idxV])

theorem l32Note_ok (m : Monitor) (k : Int) (hf : m.found.length ≤ 1000000) (hr : -1000 ≤ m.records ∧ m.records ≤ 1000000) : Fn Tryz.prog fn_spec_l32Note [m.own 0 1, .int .i64 k] [] ((⟨m.records, m.list, m.found ++ [(m.records - 1, k)]⟩ : Monitor).own 0 1) [] := by
  refine Fn.of_go ln_spec_l32Note rfl ?_
  simp [ac_spec_l32Note, Monitor.own]
  repeat' (first
    | (refine And.intro (by omega) ?_)
    | (refine And.intro (by unfold roomOk; omega) ?_))
  exact Ends.mk [(0, some 0, m.list.length, 14), (1, some 1, m.found.length + 1, 2)] [] (by simp [fV])

/-! ## What stays small -/

theorem stepS_len (x : Assoc) (p : Packet) : (stepS x p).2.length ≤ 12 := by
  cases h : mineS x p
  · rw [stepS_other h]; simp
  · rw [stepS_rules h, rulesS_marks]
    simpa using marks_len _ 12
theorem textL_told (l : List Assoc) (t : List UInt8) : (textL l t).2.length ≤ 12 := by
  unfold textL
  split
  · simp
  · unfold packL
    split
    · unfold beginL
      split
      · simp
      split
      · exact stepS_len _ _
      split <;> simp
    · split
      · unfold beginL
        split
        · simp
        split
        · exact stepS_len _ _
        split <;> simp
      · exact stepS_len _ _

structure Monitor.sm (m : Monitor) (n : Nat) : Prop where
  recs : 0 ≤ m.records ∧ m.records ≤ 60
  len : m.list.length ≤ 3
  each : ∀ x ∈ m.list, x.ok = true
  found : m.found.length ≤ n

theorem Monitor.sm.bd {m : Monitor} {n : Nat} (h : m.sm n) (hn : n ≤ 1000000) : m.bd :=
  ⟨by have := h.recs; omega, by have := h.len; omega, fun x hx => Assoc.ok_bd (h.each x hx), by have := h.found; omega⟩

theorem zMonitor_sm (n : Nat) : zMonitor.sm n := ⟨by decide, by decide, (fun x hx => by cases hx), by simp [zMonitor]⟩

theorem monS_sm {m : Monitor} {n : Nat} (h : m.sm n) (t : List UInt8) : (monS m t).sm (n + 12) := by
  unfold monS
  split
  · rename_i q
    simp only [Bool.and_eq_true, decide_eq_true_eq] at q
    have ho := monStep_ok (mon_iff.1 q.1) q.2 t
    have h1 := textL_told m.list t
    have h2 := h.found
    exact ⟨ho.recs, ho.len, fun x hx => (ho.each x hx).1, by simp [monStep]; omega⟩
  · exact zMonitor_sm _

theorem run_sm (l : List Tap) : (runS l).sm 1000 := by
  unfold runS
  split
  · rename_i q
    simp only [capOk, Bool.and_eq_true, decide_eq_true_eq] at q
    have ho := foldM_ok l (mon_iff.1 zMonitor_ok) (by simp [zMonitor]; omega)
    have hf : ∀ (l : List Tap) (m : Monitor), (foldM m l).found.length ≤ m.found.length + 12 * l.length := by
      intro l
      induction l with
      | nil => intro m; simp [foldM]
      | cons r s ih =>
        intro m
        have h1 := ih (monStep m r.text)
        have h2 := textL_told m.list r.text
        show (foldM (monStep m r.text) s).found.length ≤ _
        simp [monStep] at h1 ⊢
        omega
    have h0 := hf l zMonitor
    have e0 : zMonitor.found.length = 0 := rfl
    rw [e0] at h0
    exact ⟨ho.recs, ho.len, fun x hx => (ho.each x hx).1, by omega⟩
  · exact zMonitor_sm _
end

end Go.Proofs.YtnhhcfbigjpfeaaGreatDoor
