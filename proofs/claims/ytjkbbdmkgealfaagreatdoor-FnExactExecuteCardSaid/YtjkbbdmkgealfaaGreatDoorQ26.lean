/-
  The laws of monitors, in plain terms.
  Talks: their types, which are valid, how many parts they have.
  One chunk, by the program: receipts.
  One chunk, by the program: parts.
  One chunk, by the program.
-/
import Derived.Test.YtjkbbdmkgealfaaGreatDoorQ25
import Derived.Test.YtjkbbdmkgealfaaGreatDoorQ23
namespace Go.Proofs.YtjkbbdmkgealfaaGreatDoor
set_option linter.all false
section
set_option maxRecDepth 20000
set_option maxHeartbeats 1000000
attribute [-simp] List.getD_eq_getElem?_getD
theorem restart_begin {l : List Assoc} {p : Packet} {i : Nat} (hp : p.ok = true) (h : restartS l p i = true) : (nth p.chunks 0).kind = 1 ∧ (stepS (newA p.src p.dst) p).2 = [] := by
  simp only [restartS, Bool.and_eq_true, decide_eq_true_eq, Option.isSome_iff_exists] at h
  obtain ⟨⟨⟨⟨_, hk⟩, ha⟩, ht⟩, x, hg⟩ := h
  have h1 := (packet_ok.1 hp).2.2.2.2.2.1
  have hmem : nth p.chunks 0 ∈ p.chunks := nth_mem (by omega)
  have hl : p.chunks.length = 1 := by
    simp only [Packet.alone, Bool.and_eq_true, Bool.or_eq_true, decide_eq_true_eq, List.all_eq_true] at ha
    rcases ha.1 with h | h
    · omega
    · have := h _ hmem
      simp [aloneK, hk] at this
  obtain ⟨c, hc⟩ := List.length_eq_one_iff.1 hl
  have hn : nth p.chunks 0 = c := by rw [hc]; rfl
  rw [hn] at hk hg ⊢
  have e : p = ⟨p.src, p.dst, 0, [c]⟩ := by rw [← ht, ← hc]
  have hm := new_mine hp
  have := step_begin (s := p.src) (d := p.dst) (x := x) (c := c) (by rw [← e]; exact hm) hk hg
  rw [← e] at this
  exact ⟨hk, by rw [this]⟩
theorem erase_len {l : List Assoc} {i : Nat} (hi : i < l.length) : (l.eraseIdx i).length = l.length - 1 := List.length_eraseIdx_of_lt hi
theorem pack_restart {l : List Assoc} {p : Packet} {i : Nat} (hp : p.ok = true) (hl : l.length ≤ 3) (hf : findM l p.src p.dst = some i) (h : restartS l p i = true) : packL l p = (l.eraseIdx i ++ [(stepS (newA p.src p.dst) p).1], []) := by
  obtain ⟨h1, h2⟩ := restart_begin hp h
  have hi := (findM_some hf).1
  have hel := erase_len hi
  unfold packL
  rw [hf]
  simp only
  rw [if_pos h]
  unfold beginL
  rw [if_neg (by simpa using h1), if_neg (by simpa using h2), if_neg (by omega)]
structure Tap where
  time : Int
  text : List UInt8
deriving DecidableEq, Inhabited
def Tap.cells (r : Tap) : List V := [.int .i64 r.time, .str r.text]
def Tap.v (r : Tap) : V := .agg r.cells
def rsl (l : List Tap) : V := .sl none 2 (l.map Tap.v)
theorem rec_v (r : Tap) : r.v = .agg [.int .i64 r.time, .str r.text] := rfl
def timesOk : Int → List Tap → Bool
  | _, [] => true
  | t, r :: l => decide (t ≤ r.time) && decide (r.time ≤ 4294967295) && decide (r.text.length ≤ 120) && timesOk r.time l
def capOk (l : List Tap) : Bool := timesOk 0 l && decide (l.length ≤ 60)
def foldM (m : Monitor) (l : List Tap) : Monitor := l.foldl (fun m r => monStep m r.text) m
def runS (l : List Tap) : Monitor := if capOk l then foldM zMonitor l else zMonitor
theorem foldM_snoc (m : Monitor) (l : List Tap) (r : Tap) : foldM m (l ++ [r]) = monStep (foldM m l) r.text := by simp [foldM]
theorem foldM_records : ∀ (l : List Tap) (m : Monitor), (foldM m l).records = m.records + l.length
  | [], m => by simp [foldM]
  | r :: l, m => by
    have ih := foldM_records l (monStep m r.text)
    show (foldM (monStep m r.text) l).records = _
    rw [ih]; simp [monStep]; omega
theorem foldM_ok : ∀ (l : List Tap) {m : Monitor}, MonOk m → m.records + l.length ≤ 60 → MonOk (foldM m l)
  | [], m, h, _ => h
  | r :: l, m, h, hl => by
    simp at hl
    exact foldM_ok l (monStep_ok h (by omega) r.text) (by show m.records + 1 + _ ≤ 60; omega)
theorem timesOk_append : ∀ (l k : List Tap) (t : Int), timesOk t (l ++ k) = (timesOk t l && timesOk ((l.getLast?.map Tap.time).getD t) k)
  | [], k, t => by simp [timesOk]
  | r :: l, k, t => by
    have ih := timesOk_append l k r.time
    simp only [List.cons_append, timesOk, ih, Bool.and_assoc]
    cases l with
    | nil => simp [timesOk]
    | cons q s =>
      rw [List.getLast?_cons_cons]
      cases h : (q :: s).getLast? with
      | none => simp at h
      | some u => simp
theorem timesOk_take {l : List Tap} {t : Int} (h : timesOk t l = true) (k : Nat) : timesOk t (l.take k) = true := by
  rw [← List.take_append_drop k l, timesOk_append, Bool.and_eq_true] at h
  exact h.1
theorem capOk_take {l : List Tap} (h : capOk l = true) (k : Nat) : capOk (l.take k) = true := by
  simp only [capOk, Bool.and_eq_true, decide_eq_true_eq] at h ⊢
  exact ⟨timesOk_take h.1 k, by simp; omega⟩
theorem run_ok {l : List Tap} (h : capOk l = true) : MonOk (runS l) ∧ (runS l).records = l.length := by
  unfold runS
  rw [if_pos h]
  simp only [capOk, Bool.and_eq_true, decide_eq_true_eq] at h
  refine ⟨foldM_ok l (mon_iff.1 zMonitor_ok) (by simp [zMonitor]; omega), ?_⟩
  rw [foldM_records]; simp [zMonitor]
end
section
set_option maxRecDepth 200000
set_option maxHeartbeats 4000000
attribute [-simp] List.getD_eq_getElem?_getD
structure Say where
  byB : Bool
  stream : Int
  loose : Bool
  text : List UInt8
deriving DecidableEq, Inhabited
def Say.cells (s : Say) : List V := [.bool s.byB, .int .i64 s.stream, .bool s.loose, .str s.text]
def Say.v (s : Say) : V := .agg s.cells
structure Talk where
  src : Int
  dst : Int
  a : Hello
  b : Hello
  size : Int
  says : List Say
deriving DecidableEq, Inhabited
def Talk.cells (t : Talk) : List V := [.int .i64 t.src, .int .i64 t.dst] ++ t.a.cells ++ t.b.cells ++ [.int .i64 t.size, .sl none 4 (t.says.map Say.v)]
def Talk.v (t : Talk) : V := .agg t.cells
theorem say_v (s : Say) : s.v = .agg [.bool s.byB, .int .i64 s.stream, .bool s.loose, .str s.text] := rfl
theorem talk_v (t : Talk) : t.v = .agg [.int .i64 t.src, .int .i64 t.dst, .int .i64 t.a.tag, .int .i64 t.a.window, .int .i64 t.a.streams, .int .i64 t.a.tsn, .int .i64 t.b.tag, .int .i64 t.b.window, .int .i64 t.b.streams, .int .i64 t.b.tsn, .int .i64 t.size, .sl none 4 (t.says.map Say.v)] := rfl
structure Talk.bd (t : Talk) : Prop where
  says : t.says.length ≤ 1000
  text : ∀ x ∈ t.says, x.text.length ≤ 100000
def manyN (n z : Nat) : Nat := (n + z - 1) / z
def manyL (z : Nat) (b : Bool) : List Say → Nat
  | [] => 0
  | x :: r => (if x.byB = b then manyN x.text.length z else 0) + manyL z b r
theorem manyL_append (z : Nat) (b : Bool) : ∀ l k : List Say, manyL z b (l ++ k) = manyL z b l + manyL z b k
  | [], k => by simp [manyL]
  | x :: r, k => by simp [manyL, manyL_append z b r k, Nat.add_assoc]
theorem manyL_drop {z : Nat} {b : Bool} {l : List Say} {i : Nat} (h : i < l.length) : manyL z b (l.drop i) = (if (nth l i).byB = b then manyN (nth l i).text.length z else 0) + manyL z b (l.drop (i + 1)) := by
  rw [List.drop_eq_getElem_cons h, nth_eq h]; rfl
theorem manyL_take {z : Nat} {b : Bool} {l : List Say} {i : Nat} (h : i < l.length) : manyL z b (l.take (i + 1)) = manyL z b (l.take i) + (if (nth l i).byB = b then manyN (nth l i).text.length z else 0) := by
  rw [take_nth h, manyL_append]; simp [manyL]
theorem many_le {n z : Nat} (hz : 1 ≤ z) : manyN n z ≤ n := by
  unfold manyN
  rcases Nat.eq_zero_or_pos n with rfl | h
  · rw [Nat.div_eq_of_lt (by omega)]; exact Nat.le_refl _
  · calc (n + z - 1) / z ≤ (n * z) / z := Nat.div_le_div_right (by
          have : n + z ≤ n * z + 1 := by
            obtain ⟨m, rfl⟩ : ∃ m, n = m + 1 := ⟨n - 1, by omega⟩
            rw [Nat.succ_mul]
            have := Nat.le_mul_of_pos_right m hz
            omega
          omega)
      _ = n := Nat.mul_div_cancel _ hz
theorem manyL_le {z : Nat} (hz : 1 ≤ z) (b : Bool) {m : Nat} : ∀ l : List Say, (∀ x ∈ l, x.text.length ≤ m) → manyL z b l ≤ m * l.length
  | [], _ => by simp [manyL]
  | x :: r, h => by
    have ih := manyL_le hz b r fun y hy => h y (List.mem_cons_of_mem _ hy)
    have h1 := many_le (n := x.text.length) hz
    have h2 := h x List.mem_cons_self
    simp only [manyL, List.length_cons, Nat.mul_succ]
    split <;> omega
theorem many_step {n z at' : Nat} (hz : 1 ≤ z) (h : at' < n) : manyN (n - at') z = 1 + manyN (n - (at' + z)) z := by
  unfold manyN
  rcases Nat.lt_or_ge (n - at') (z + 1) with q | q
  · have e1 : n - (at' + z) = 0 := by omega
    rw [e1, Nat.div_eq_of_lt (by omega : 0 + z - 1 < z)]
    have : n - at' + z - 1 = (n - at' - 1) + z := by omega
    rw [this, Nat.add_div_right _ hz, Nat.div_eq_of_lt (by omega)]
  · have : n - at' + z - 1 = (n - (at' + z) + z - 1) + z := by omega
    rw [this, Nat.add_div_right _ hz]; omega
theorem many_zero {z : Nat} (hz : 1 ≤ z) : manyN 0 z = 0 := by unfold manyN; exact Nat.div_eq_of_lt (by omega)
def sayOk (t : Talk) (x : Say) : Bool := inB x.text.length 1 60 && (if x.byB then inB x.stream 0 (t.b.streams - 1) else inB x.stream 0 (t.a.streams - 1))
def Talk.head (t : Talk) : Bool := inB t.src 1 65535 && inB t.dst 1 65535 && decide (t.src ≠ t.dst) && t.a.ok && t.b.ok && inB t.size 1 20
def Talk.ok (t : Talk) : Bool := t.head && t.says.all (sayOk t) && decide (t.says.length ≤ 4) && decide (manyL t.size.toNat false t.says ≤ 12) && decide (manyL t.size.toNat true t.says ≤ 12)
structure TalkC (t : Talk) : Prop where
  a : t.a.ok = true
  b : t.b.ok = true
  size : 1 ≤ t.size ∧ t.size ≤ 20
  says : t.says.length ≤ 4
  text : ∀ x ∈ t.says, 1 ≤ x.text.length ∧ x.text.length ≤ 60
  ma : manyL t.size.toNat false t.says ≤ 12
  mb : manyL t.size.toNat true t.says ≤ 12
theorem talk_c {t : Talk} (h : t.ok = true) : TalkC t := by
  simp only [Talk.ok, Talk.head, Bool.and_eq_true, decide_eq_true_eq, List.all_eq_true, inB] at h
  obtain ⟨⟨⟨⟨⟨⟨⟨_, ha⟩, hb⟩, hz⟩, hs⟩, hl⟩, h1⟩, h2⟩ := h
  refine ⟨ha, hb, hz, hl, fun x hx => ?_, h1, h2⟩
  have := hs x hx
  simp only [sayOk, inB, Bool.and_eq_true, decide_eq_true_eq] at this
  omega
def piecesF (z : Nat) (first : Int) (x : Say) (ssn : Int) : Nat → Nat → List Part → List Part
  | 0, _, out => out
  | f + 1, i, out => if i < x.text.length then
      piecesF z first x ssn f (i + z) (out ++ [⟨addS first out.length, x.stream, ssn, decide (i = 0), decide (min (i + z) x.text.length = x.text.length), x.loose, (x.text.take (min (i + z) x.text.length)).drop i⟩]) else out
def ssnF (x : Say) (out : List Part) : Int := if x.loose then 0 else ssnN out x.stream
def sayF (z : Nat) (first : Int) (byB : Bool) (out : List Part) (x : Say) : List Part :=
  if x.byB = byB then piecesF z first x (ssnF x out) x.text.length 0 out else out
def Talk.tsn (t : Talk) (byB : Bool) : Int := if byB then t.b.tsn else t.a.tsn
def partsT (t : Talk) (byB : Bool) : List Part := t.says.foldl (sayF t.size.toNat (t.tsn byB) byB) []
theorem pieces_len {z : Nat} (hz : 1 ≤ z) {first : Int} {x : Say} {ssn : Int} : ∀ (f i : Nat) (out : List Part), x.text.length - i ≤ f → (piecesF z first x ssn f i out).length = out.length + manyN (x.text.length - i) z
  | 0, i, out, h => by
    have : x.text.length - i = 0 := by omega
    simp [piecesF, this, many_zero hz]
  | f + 1, i, out, h => by
    unfold piecesF
    split
    · rename_i hlt
      rw [pieces_len hz f (i + z) _ (by omega), many_step (n := x.text.length) (at' := i) hz hlt]; simp; omega
    · have : x.text.length - i = 0 := by omega
      simp [this, many_zero hz]
theorem say_len {z : Nat} (hz : 1 ≤ z) (first : Int) (byB : Bool) (out : List Part) (x : Say) : (sayF z first byB out x).length = out.length + if x.byB = byB then manyN x.text.length z else 0 := by
  unfold sayF
  split
  · rw [pieces_len hz _ _ _ (by omega)]; simp
  · simp
theorem fold_len {z : Nat} (hz : 1 ≤ z) (first : Int) (byB : Bool) : ∀ (l : List Say) (out : List Part), (l.foldl (sayF z first byB) out).length = out.length + manyL z byB l
  | [], out => by simp [manyL]
  | x :: r, out => by
    rw [List.foldl_cons, fold_len hz first byB r, say_len hz]; simp [manyL]; omega
theorem parts_len {t : Talk} (hz : 1 ≤ t.size) (byB : Bool) : (partsT t byB).length = manyL t.size.toNat byB t.says := by
  unfold partsT; rw [fold_len (by omega)]; simp
def packT (t : Talk) (byB : Bool) (cs : List Chunk) : Packet := if byB then ⟨t.dst, t.src, t.a.tag, cs⟩ else ⟨t.src, t.dst, t.b.tag, cs⟩
def oneT (t : Talk) (byB : Bool) (kind : Int) : Packet := packT t byB [⟨kind, 0, []⟩]
def helloT (t : Talk) : List Packet := [{ packT t false [(putHello t.a false).getD zChunk] with tag := 0 }, packT t true [(putHello t.b true).getD zChunk], oneT t false 10, oneT t true 11]
def dataC (d : Part) : Chunk := (putPart d).getD zChunk
def sackC (d : Part) : Chunk := (putSack ⟨d.tsn, []⟩).getD zChunk
def sendF (t : Talk) (byB : Bool) : Nat → List Part → List Packet → List Part × List Packet
  | 0, m, out => (m, out)
  | k + 1, m, out => sendF t byB k (m.drop 1) (out ++ [packT t byB [dataC (nth m 0)], packT t (!byB) [sackC (nth m 0)]])
def saysF (t : Talk) : List Say → List Part → List Part → List Packet → List Packet
  | [], _, _, out => out
  | x :: r, a, b, out =>
    if x.byB then saysF t r a (sendF t true (manyN x.text.length t.size.toNat) b out).1 (sendF t true (manyN x.text.length t.size.toNat) b out).2
    else saysF t r (sendF t false (manyN x.text.length t.size.toNat) a out).1 b (sendF t false (manyN x.text.length t.size.toNat) a out).2
def packetsT (t : Talk) : List Packet :=
  if t.ok then saysF t t.says (partsT t false) (partsT t true) (helloT t) ++ [oneT t false 7, oneT t true 8, oneT t false 14] else []
def Short (p : Packet) : Prop := p.chunks.length = 1
theorem short_pack (t : Talk) (byB : Bool) (c : Chunk) : Short (packT t byB [c]) := by cases byB <;> rfl
theorem send_short (t : Talk) (byB : Bool) : ∀ (k : Nat) (m : List Part) (out : List Packet), (∀ p ∈ out, Short p) → (sendF t byB k m out).1 = m.drop k ∧ (sendF t byB k m out).2.length = out.length + 2 * k ∧ ∀ p ∈ (sendF t byB k m out).2, Short p
  | 0, m, out, h => ⟨rfl, rfl, h⟩
  | k + 1, m, out, h => by
    obtain ⟨h1, h2, h3⟩ := send_short t byB k (m.drop 1) (out ++ [packT t byB [dataC (nth m 0)], packT t (!byB) [sackC (nth m 0)]]) (by
      intro p hp
      rcases List.mem_append.1 hp with q | q
      · exact h p q
      · simp at q
        rcases q with rfl | rfl
        · exact short_pack _ _ _
        · exact short_pack _ _ _)
    refine ⟨?_, ?_, h3⟩
    · unfold sendF; rw [h1, List.drop_drop]; congr 1; omega
    · unfold sendF; rw [h2]; simp; omega
theorem says_short (t : Talk) : ∀ (l : List Say) (a b : List Part) (out : List Packet), (∀ p ∈ out, Short p) → (∀ p ∈ saysF t l a b out, Short p) ∧ (saysF t l a b out).length = out.length + 2 * (manyL t.size.toNat false l + manyL t.size.toNat true l)
  | [], a, b, out, h => ⟨h, by simp [saysF, manyL]⟩
  | x :: r, a, b, out, h => by
    unfold saysF
    cases hb : x.byB
    · obtain ⟨h1, h2, h3⟩ := send_short t false (manyN x.text.length t.size.toNat) a out h
      obtain ⟨k1, k2⟩ := says_short t r (sendF t false (manyN x.text.length t.size.toNat) a out).1 b _ h3
      simp only [Bool.false_eq_true, if_false]
      refine ⟨k1, ?_⟩
      rw [k2, h2]; simp [manyL, hb]; omega
    · obtain ⟨h1, h2, h3⟩ := send_short t true (manyN x.text.length t.size.toNat) b out h
      obtain ⟨k1, k2⟩ := says_short t r a (sendF t true (manyN x.text.length t.size.toNat) b out).1 _ h3
      simp only [if_true]
      refine ⟨k1, ?_⟩
      rw [k2, h2]; simp [manyL, hb]; omega
theorem hello_short (t : Talk) : ∀ p ∈ helloT t, Short p := by
  intro p hp
  simp [helloT] at hp
  rcases hp with rfl | rfl | rfl | rfl
  · rfl
  · exact short_pack _ _ _
  · exact short_pack _ _ _
  · exact short_pack _ _ _
theorem packets_short (t : Talk) : (∀ p ∈ packetsT t, Short p) ∧ (packetsT t).length ≤ 60 := by
  unfold packetsT
  split
  · rename_i h
    have hc := talk_c h
    obtain ⟨h1, h2⟩ := says_short t t.says (partsT t false) (partsT t true) (helloT t) (hello_short t)
    have := hc.ma
    have := hc.mb
    refine ⟨?_, ?_⟩
    · intro p hp
      rcases List.mem_append.1 hp with q | q
      · exact h1 p q
      · simp at q
        rcases q with rfl | rfl | rfl <;> exact short_pack _ _ _
    · have h5 : (helloT t).length = 4 := rfl
      rw [List.length_append, h2, h5]; simp; omega
  · simp
def recsF : Int → List Packet → List Tap
  | _, [] => []
  | n, p :: r => ⟨n, textP p⟩ :: recsF (n + 1) r
def recordsT (t : Talk) (n : Int) : List Tap := if 0 ≤ n ∧ capOk (recsF n (packetsT t)) = true then recsF n (packetsT t) else []
theorem recsF_snoc : ∀ (l : List Packet) (n : Int) (p : Packet), recsF n (l ++ [p]) = recsF n l ++ [⟨n + l.length, textP p⟩]
  | [], n, p => by simp [recsF]
  | q :: r, n, p => by
    simp [recsF, recsF_snoc r (n + 1) p]; omega
theorem recsF_len : ∀ (l : List Packet) (n : Int), (recsF n l).length = l.length
  | [], n => rfl
  | q :: r, n => by simp [recsF, recsF_len r]
theorem timesOk_text : ∀ (l : List Tap) (t : Int), timesOk t l = true → ∀ r ∈ l, r.text.length ≤ 120
  | [], t, _, r, hr => by cases hr
  | q :: l, t, h, r, hr => by
    simp only [timesOk, Bool.and_eq_true, decide_eq_true_eq] at h
    rcases List.mem_cons.1 hr with rfl | hr
    · exact h.1.2
    · exact timesOk_text l _ h.2 r hr
theorem records_small (t : Talk) (n : Int) : (recordsT t n).length ≤ 60 ∧ ∀ r ∈ recordsT t n, r.text.length ≤ 120 := by
  unfold recordsT
  split
  · rename_i h
    have := h.2
    simp only [capOk, Bool.and_eq_true, decide_eq_true_eq] at this
    exact ⟨this.2, timesOk_text _ _ this.1⟩
  · simp
end
section
set_option maxRecDepth 200000
set_option maxHeartbeats 4000000
attribute [-simp] List.getD_eq_getElem?_getD
theorem ack_ok (x : Assoc) (byB : Bool) (c : Chunk) (hb : c.body.length ≤ 1000000) (hx : x.ok = true) (hs : 4 ≤ x.state ∧ x.state ≤ 5) :
    Fn Tryz.prog fn_impl_acknowledge [c.v, .ptr 1000 (if byB then 4 else 9)] [x.own 0 1] (.int .i64 (stepSack x byB c).2) [(stepSack x byB c).1.own 0 1] := by
  refine Fn.of_go ln_impl_acknowledge rfl ?_
  have f1 := impl_SackGet_ok c hb
  obtain ⟨⟨hf1, hf2⟩, hf3, -⟩ := Side.ok_first (Assoc.ok_side hx byB).2
  simp only [chunk_v] at f1
  have hst := stepSack_eq x byB c
  rw [if_neg (by omega)] at hst
  cases hg : getSack c with
  | none =>
    rw [hg] at f1 hst
    simp only at hst
    rw [hst]
    simp [optV, zSack_v] at f1
    simp [ac_impl_acknowledge, chunk_v, own_c]
    refine goCall_eq f1 (by simp) ?_
    simp
    refine Ends.mk [(0, some 0, x.a.sent.length, 7), (1, some 1, x.b.sent.length, 7)] [(1000, 1000)] ?_
    simp [own_c]
  | some k =>
    rw [hg] at f1 hst
    simp only at hst
    rw [hst]
    obtain ⟨hd, -⟩ := getSack_ok hg
    obtain ⟨hd1, hd2, hd3, hd4⟩ := sack_bd hd
    simp [optV, sk_v] at f1
    have f3 := impl_SerialAdd_ok (x.other byB).first (-1) (by omega)
    rw [if_pos (by simp [inS]; omega)] at f3
    have hk : 0 ≤ addS (x.other byB).first (-1) ∧ addS (x.other byB).first (-1) < 65536 := by unfold addS; omega
    have f4 := impl_SerialDiff_ok (addS (x.other byB).first (-1)) k.cum
    rw [if_pos (by simp [inS]; omega)] at f4
    have hdb := diffS_bd (addS (x.other byB).first (-1)) k.cum
    simp [ac_impl_acknowledge, chunk_v, own_c]
    refine goCall_eq f1 (by simp) ?_
    clear hst f1 hg
    generalize diffS (addS (x.other byB).first (-1)) k.cum = fin at *
    cases byB
    all_goals
      simp only [Assoc.other] at *
      simp at f3 f4 hf1 hf2 hf3 hk
      by_cases hn : k.gaps = []
      · have hm : mostG fin k.gaps = fin := by rw [hn]; rfl
        rw [hm]
        simp [hn]
        repeat' (first
          | (exfalso; omega)
          | (refine goTest_dec (fun q => ?_) (fun q => ?_) <;> simp [q])
          | (refine goDCall_eq f3 (by simp) (by simp) ?_; simp)
          | (refine goCall_eq f4 (by simp) ?_; simp)
          | (refine And.intro (by omega) ?_)
          | (refine EndsO_ite (fun q => ?_) (fun q => ?_))
          | (refine Ends.mk [(0, some 0, x.a.sent.length, 7), (1, some 1, x.b.sent.length, 7)] [(1000, 1000)] ?_; clear f4 f3; simp [own_c, imax, Assoc.with] <;> fail))
      · have hl := List.length_pos_iff.2 hn
        have e1 : ((k.gaps.length : Int) - 1).toNat = k.gaps.length - 1 := by omega
        have e2 : k.gaps.length - 1 < k.gaps.length := by omega
        have hg2 := hd4 _ (nth_mem e2)
        have hm : mostG fin k.gaps = fin + (nth k.gaps (k.gaps.length - 1)).2 := by unfold mostG; rw [nth_last hn]
        rw [hm]
        simp [hl, e1, e2, gV]
        generalize hgv : nth k.gaps (k.gaps.length - 1) = g at *
        repeat' (first
          | (exfalso; omega)
          | (refine goTest_dec (fun q => ?_) (fun q => ?_) <;> simp [q, hl, e1, e2, gV, hgv])
          | (refine goDCall_eq f3 (by simp) (by simp) ?_; simp [hl, e1, e2, gV, hgv])
          | (refine goCall_eq f4 (by simp) ?_; simp [hl, e1, e2, gV, hgv])
          | (refine And.intro (by omega) ?_)
          | (refine EndsO_ite (fun q => ?_) (fun q => ?_))
          | (refine Ends.mk [(0, some 0, x.a.sent.length, 7), (1, some 1, x.b.sent.length, 7)] [(1000, 1000)] ?_; clear f4 f3; simp [own_c, imax, Assoc.with] <;> fail))
end
section
set_option maxRecDepth 200000
set_option maxHeartbeats 4000000
attribute [-simp] List.getD_eq_getElem?_getD
theorem sub_add {a b : Int} (ha : 0 ≤ a ∧ a ≤ 65535) (hb : 0 ≤ b ∧ b ≤ 65535) : (a - b + 65536).tmod 65536 = addS a (-b) := by
  unfold addS; rw [tmod_pos (by omega)]; omega
theorem take_ok (x : Assoc) (byB : Bool) (c : Chunk) (hb : c.body.length ≤ 1000000) (hx : x.ok = true) (hm : (x.state = 4 ∨ (x.state = 3 ∧ byB = false)) ∨ (x.state = 5 ∧ byB ≠ x.byB)) :
    Fn Tryz.prog fn_impl_Assoc_take [.ptr 1000 0, c.v, .ptr 1000 (if byB then 9 else 4)] [x.own 0 1] (.int .i64 (stepPart x byB c).2) [(stepPart x byB c).1.own 0 1] := by
  refine Fn.of_go ln_impl_Assoc_take rfl ?_
  have f1 := impl_DataGet_ok c hb
  obtain ⟨⟨hf1, hf2⟩, hf3, -⟩ := Side.ok_first (Assoc.ok_side hx byB).1
  simp only [chunk_v] at f1
  cases hg : getPart c with
  | none =>
    have hst : stepPart x byB c = (x, 4) := by
      simp only [stepPart, hg]; rw [if_neg (fun q => q hm)]
    rw [hg] at f1
    rw [hst]
    simp [optV, zPart_v] at f1
    simp [ac_impl_Assoc_take, chunk_v, own_c]
    refine goCall_eq f1 (by simp) ?_
    simp
    refine Ends.mk [(0, some 0, x.a.sent.length, 7), (1, some 1, x.b.sent.length, 7)] [(1000, 1000)] ?_
    simp [own_c]
  | some d =>
    rw [hg] at f1
    obtain ⟨hd, hd1, hd2⟩ := getPart_ok hg
    simp [optV, pt_v] at f1
    have f4 := mayFollow_ok (x.side byB).sent d (by omega)
    simp only [psl, pt_v] at f4
    have hsub := sub_add (a := d.tsn) (b := (x.side byB).first) (by omega) (by omega)
    have hk : 0 ≤ addS d.tsn (-(x.side byB).first) ∧ addS d.tsn (-(x.side byB).first) < 65536 := by unfold addS; omega
    obtain ⟨k, hkk⟩ : ∃ k : Nat, addS d.tsn (-(x.side byB).first) = k := ⟨(addS d.tsn (-(x.side byB).first)).toNat, by omega⟩
    have hst : stepPart x byB c = ((
      if k < (x.side byB).sent.length then (x, if nth (x.side byB).sent k = d then 0 else 7) else
      if x.state = 5 then (x, 3) else
      if d.stream ≥ (x.side byB).streams then (x, 5) else
      if k > (x.side byB).sent.length then (x, 6) else
      if followS (x.side byB).sent d = false then (x, 8) else
      if (x.side byB).sent.length ≥ 12 then (x, 11) else
      (x.with byB { x.side byB with sent := (x.side byB).sent ++ [d] }, 0)) : Assoc × Int) := by
      simp only [stepPart, hg, hkk]
      rw [if_neg (fun q => q hm)]
      have e : (¬ (x.state = 4 ∨ (x.state = 3 ∧ byB = false))) ↔ x.state = 5 := by
        constructor
        · intro q; rcases hm with hm | hm
          · exact absurd hm q
          · exact hm.1
        · intro q; omega
      simp only [e]
      simp
    rw [hst, ]
    rw [hkk] at hsub
    clear hst hg
    simp [ac_impl_Assoc_take, chunk_v, own_c]
    refine goCall_eq f1 (by simp) ?_
    cases byB
    all_goals
      simp only [Assoc.side] at *
      simp at f4 hf1 hf2 hf3 hsub
      simp [hsub]
      repeat' (first
        | (exfalso; omega)
        | (refine goTest_dec (fun q => ?_) (fun q => ?_) <;> simp [q, hsub, pt_v, part_ne])
        | (refine goTest_bool (fun q => ?_) (fun q => ?_) <;> simp [q])
        | (refine goCall_gen [] [] [] [0] none f4 ?_ ?_; (· simp; done); simp)
        | (refine goCall_gen [] [] [] [1] none f4 ?_ ?_; (· simp; done); simp)
        | (refine And.intro (by omega) ?_)
        | (refine And.intro (by unfold roomOk; omega) ?_)
        | (refine EndsO_ite (fun q => ?_) (fun q => ?_))
        | (refine Ends.mk [(0, some 0, x.a.sent.length, 7), (1, some 1, x.b.sent.length, 7)] [(1000, 1000)] ?_; clear f4; simp [own_c, Assoc.with] <;> fail)
        | (refine Ends.mk [(0, some 0, x.a.sent.length, 7), (1, some 1, x.b.sent.length, 7)] [(1000, 1000)] ?_; clear f4; simp [own_c, Assoc.with, *] <;> fail)
        | (refine Ends.mk [(0, some 0, x.a.sent.length + 1, 7), (1, some 1, x.b.sent.length, 7)] [(1000, 1000)] ?_; clear f4; simp [own_c, Assoc.with, pt_v] <;> fail)
        | (refine Ends.mk [(0, some 0, x.a.sent.length, 7), (1, some 1, x.b.sent.length + 1, 7)] [(1000, 1000)] ?_; clear f4; simp [own_c, Assoc.with, pt_v] <;> fail))
end
section
set_option maxRecDepth 200000
set_option maxHeartbeats 8000000
attribute [-simp] List.getD_eq_getElem?_getD
theorem handle_ok (x : Assoc) (byB : Bool) (c : Chunk) (hb : c.body.length ≤ 1000000) (hx : x.ok = true) :
    Fn Tryz.prog fn_impl_Assoc_handle [.ptr 1000 0, c.v, .bool byB] [x.own 0 1] (.int .i64 (stepC x byB c).2) [(stepC x byB c).1.own 0 1] := by
  refine Fn.of_go ln_impl_Assoc_handle rfl ?_
  have hs := Assoc.ok_state hx
  unfold stepC
  split
  · rename_i hk
    have f1 := greet_ok x byB c hb hx hk
    generalize stepHello x byB c = r at *
    simp only [chunk_v, own_c] at f1
    cases byB
    all_goals
      simp at f1
      simp [ac_impl_Assoc_handle, chunk_v, own_c]
      repeat' (first
        | (exfalso; omega)
        | (refine goTest_dec (fun q => ?_) (fun q => ?_) <;> simp [q])
        | (try rw [‹c.kind = 1›] at f1
           refine goCall_gen [(0, some 0, x.a.sent.length, 7), (1, some 1, x.b.sent.length, 7)] [(1000, 1000)] [] [] none f1 ?_ ?_; (· simp; done); simp; refine Ends.mk [(0, some 608, r.1.a.sent.length, 7), (1, some 609, r.1.b.sent.length, 7)] [(1000, 1000)] ?_; simp <;> fail)
        | (try rw [‹c.kind = 2›] at f1
           refine goCall_gen [(0, some 0, x.a.sent.length, 7), (1, some 1, x.b.sent.length, 7)] [(1000, 1000)] [] [] none f1 ?_ ?_; (· simp; done); simp; refine Ends.mk [(0, some 608, r.1.a.sent.length, 7), (1, some 609, r.1.b.sent.length, 7)] [(1000, 1000)] ?_; simp <;> fail))
  · split
    · rename_i hk0 hk
      by_cases hm : (x.state = 4 ∨ (x.state = 3 ∧ byB = false)) ∨ (x.state = 5 ∧ byB ≠ x.byB)
      · have f1 := take_ok x byB c hb hx hm
        generalize stepPart x byB c = r at *
        simp only [chunk_v, own_c, hk] at f1
        cases hw : x.byB <;> cases byB
        all_goals
          simp [hw] at f1 hm
          simp [ac_impl_Assoc_handle, chunk_v, own_c, hw, hk]
          repeat' (first
            | (exfalso; omega)
            | (refine goTest_dec (fun q => ?_) (fun q => ?_) <;> simp [q])
            | (refine goCall_gen [(0, some 0, x.a.sent.length, 7), (1, some 1, x.b.sent.length, 7)] [(1000, 1000)] [] [] none f1 ?_ ?_; (· simp; done); simp; refine Ends.mk [(0, some 1136, r.1.a.sent.length, 7), (1, some 1137, r.1.b.sent.length, 7)] [(1000, 1000)] ?_; simp <;> fail)
            | (rw [‹x.state = _›] at f1
               refine goCall_gen [(0, some 0, x.a.sent.length, 7), (1, some 1, x.b.sent.length, 7)] [(1000, 1000)] [] [] none f1 ?_ ?_; (· simp; done); simp; refine Ends.mk [(0, some 1136, r.1.a.sent.length, 7), (1, some 1137, r.1.b.sent.length, 7)] [(1000, 1000)] ?_; simp <;> fail))
      · have hst : stepPart x byB c = (x, 3) := by
          simp only [stepPart]; rw [if_pos hm]
        rw [hst]
        cases hw : x.byB <;> cases byB
        all_goals
          simp [hw] at hm
          simp [ac_impl_Assoc_handle, chunk_v, own_c, hw, hk]
          repeat' (first
            | (exfalso; omega)
            | (refine goTest_dec (fun q => ?_) (fun q => ?_) <;> simp [q])
            | (refine Ends.mk [(0, some 0, x.a.sent.length, 7), (1, some 1, x.b.sent.length, 7)] [(1000, 1000)] ?_; simp <;> fail))
    · split
      · rename_i hk0 hk1 hk
        by_cases hm : 4 ≤ x.state ∧ x.state ≤ 5
        · have f1 := ack_ok x byB c hb hx hm
          generalize stepSack x byB c = r at *
          simp only [chunk_v, own_c, hk] at f1
          cases byB
          all_goals
            simp at f1
            simp [ac_impl_Assoc_handle, chunk_v, own_c, hk]
            repeat' (first
              | (exfalso; omega)
              | (refine goTest_dec (fun q => ?_) (fun q => ?_) <;> simp [q])
              | (refine goCall_gen [(0, some 0, x.a.sent.length, 7), (1, some 1, x.b.sent.length, 7)] [(1000, 1000)] [] [] none f1 ?_ ?_; (· simp; done); simp; refine Ends.mk [(0, some 1408, r.1.a.sent.length, 7), (1, some 1409, r.1.b.sent.length, 7)] [(1000, 1000)] ?_; simp <;> fail)
              | (rw [‹x.state = _›] at f1
                 refine goCall_gen [(0, some 0, x.a.sent.length, 7), (1, some 1, x.b.sent.length, 7)] [(1000, 1000)] [] [] none f1 ?_ ?_; (· simp; done); simp; refine Ends.mk [(0, some 1408, r.1.a.sent.length, 7), (1, some 1409, r.1.b.sent.length, 7)] [(1000, 1000)] ?_; simp <;> fail))
        · rw [stepSack_eq, if_pos hm]
          cases byB
          all_goals
            simp [ac_impl_Assoc_handle, chunk_v, own_c, hk]
            repeat' (first
              | (exfalso; omega)
              | (refine goTest_dec (fun q => ?_) (fun q => ?_) <;> simp [q])
              | (refine Ends.mk [(0, some 0, x.a.sent.length, 7), (1, some 1, x.b.sent.length, 7)] [(1000, 1000)] ?_; simp <;> fail))
      · split
        · rename_i hk
          unfold stepEnd
          rcases hk with hk | hk | hk | hk
          all_goals
            cases byB
            all_goals
              cases hw : x.byB
              all_goals
                simp only [hk, Assoc.side]
                simp [ac_impl_Assoc_handle, chunk_v, own_c, hk, hw]
                repeat' (first
                  | (exfalso; omega)
                  | (refine goTest_dec (fun q => ?_) (fun q => ?_) <;> simp [q])
                  | (refine EndsO_ite (fun q => ?_) (fun q => ?_))
                  | (refine Ends.mk [(0, some 0, x.a.sent.length, 7), (1, some 1, x.b.sent.length, 7)] [(1000, 1000)] ?_; simp [own_c, hw] <;> fail)
                  | (refine Ends.mk [(0, some 0, x.a.sent.length, 7), (1, some 1, x.b.sent.length, 7)] [(1000, 1000)] ?_; simp [own_c, hw, *] <;> fail))
        · have hst : stepCookie x byB c.kind = stepCookie x byB c.kind := rfl
          unfold stepCookie
          cases byB
          all_goals
            simp only [imax]
            simp [ac_impl_Assoc_handle, chunk_v, own_c]
            repeat' (first
              | (exfalso; omega)
              | (refine goTest_dec (fun q => ?_) (fun q => ?_) <;> simp [q])
              | (refine EndsO_ite (fun q => ?_) (fun q => ?_))
              | (refine Ends.mk [(0, some 0, x.a.sent.length, 7), (1, some 1, x.b.sent.length, 7)] [(1000, 1000)] ?_; simp [own_c] <;> fail)
              | (refine Ends.mk [(0, some 0, x.a.sent.length, 7), (1, some 1, x.b.sent.length, 7)] [(1000, 1000)] ?_; simp [own_c, *] <;> fail)
              | (refine Ends.mk [(0, some 0, x.a.sent.length, 7), (1, some 1, x.b.sent.length, 7)] [(1000, 1000)] ?_; simp [own_c, *] <;> omega))
end
end Go.Proofs.YtjkbbdmkgealfaaGreatDoor
