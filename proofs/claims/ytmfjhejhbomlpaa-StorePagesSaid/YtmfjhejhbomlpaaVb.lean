/- Walks of numbers as bytes: read. -/
import Derived.Test.YtmfjhejhbomlpaaVa
import Derived.Laws.BitsAllLaws
import Derived.PlainAid
set_option linter.unusedVariables false
set_option linter.unusedSimpArgs false
namespace Go.Proofs.Ytmfjhejhbomlpaa
open Go.RowKit

/-- The number that bytes are. -/
def getB (l : List UInt8) : Nat := l.foldl (fun x c => x * 256 + c.toNat) 0
theorem getB_snoc (l : List UInt8) (c : UInt8) : getB (l ++ [c]) = getB l * 256 + c.toNat := by simp [getB]
theorem getB_lt : ∀ (k : Nat) (l : List UInt8), l.length = k → getB l < 256 ^ k
  | 0, l, h => by rw [List.eq_nil_of_length_eq_zero h]; decide
  | k + 1, l, h => by
    have hne : l ≠ [] := by intro e; rw [e] at h; cases h
    rw [← List.dropLast_concat_getLast hne, getB_snoc]
    have h1 := getB_lt k l.dropLast (by rw [List.length_dropLast, h]; rfl)
    have h2 := (l.getLast hne).toNat_lt
    have h3 : (256 : Nat) ^ (k + 1) = 256 ^ k * 256 := Nat.pow_succ ..
    rw [h3]
    omega
/-- One byte behind. -/
theorem shl8_or (x : Nat) (c : UInt8) (h : x < 72057594037927936) : bits BinOp.or IntKind.u64 ((x : Int) * 256) (c.toNat : Int) = ((x * 256 + c.toNat : Nat) : Int) := by
  have hc := c.toNat_lt
  have := u64_or_nat (x * 256) c.toNat (by omega) (by omega)
  rw [nat_join 8 _ _ (by omega) (by omega)] at this
  rw [← this]
  congr 1
theorem get_step (x : Nat) (c : UInt8) (h : x < 72057594037927936) : bits BinOp.or IntKind.u64 (IntKind.u64.wrap ((x : Int) * 256)) (IntKind.u64.wrap (c.toNat : Int)) = ((x * 256 + c.toNat : Nat) : Int) := by
  have hc := c.toNat_lt
  rw [PlainAid.u64_nonneg (by omega) (by omega), PlainAid.u64_nonneg (by omega) (by omega), shl8_or x c h]

set_option maxRecDepth 100000 in
set_option maxHeartbeats 1000000 in
theorem get_calls (v : Value) (xs : List UInt8) (w : World) (h : RB w v xs) (h1 : 1 ≤ xs.length) (h8 : xs.length ≤ 8) :
    Calls Try.prog 69 #[v] w fun e w' => e = .returned (.tuple #[.int .u64 (getB xs : Int), .bool true]) ∧ w = w' := by
  obtain ⟨A, c, rfl, hc, hn, hm, hr⟩ := h
  go_enter Try.func69, Try.ntmps69
  go_wp2
  go_loop [17, 4] (fun i x => ∃ k : Nat, k ≤ xs.length ∧ i = .int .i64 k ∧ x = .int .u64 (getB (xs.take k) : Int)) (fun i _ => xs.length - (intOf i).toNat)
  case atStart => exact ⟨0, Nat.zero_le _, rfl, rfl⟩
  case round =>
    obtain ⟨k, hk, rfl, rfl⟩ := hrel
    by_cases hlt : k < xs.length
    · obtain ⟨ad, rfl, hl, hcell⟩ := hr.byte hlt
      have hg := getB_lt k (xs.take k) (by rw [List.length_take]; omega)
      have hg2 : getB (xs.take k) < 72057594037927936 := Nat.lt_of_lt_of_le hg (Nat.le_trans (Nat.pow_le_pow_right (by omega) (show k ≤ 7 by omega)) (by decide))
      have hs : getB (xs.take (k + 1)) = getB (xs.take k) * 256 + xs[k].toNat := by rw [List.take_succ_eq_append_getElem hl, getB_snoc]
      have HS := Lib.hid hs
      have HG := Lib.hid hg2
      clear hs hg hg2
      generalize getB (xs.take k) = x at *
      go_wp2
      go_round
      case rel => exact ⟨k + 1, by omega, by go_num, by rw [HS.out, get_step _ _ HG.out]⟩
      case measure => simp [intOf]; omega
    · have hs : getB (xs.take k) = getB xs := by rw [List.take_of_length_le (by omega)]
      have HS := Lib.hid hs
      clear hs
      go_wp2
      go_ret2
      exact ⟨by rw [HS.out]; rfl, rfl⟩

/-- A number as so many bytes. -/
def putB : Nat → Nat → List UInt8
  | 0, _ => []
  | n + 1, x => putB n (x / 256) ++ [UInt8.ofNat (x % 256)]
theorem putB_length : ∀ (n x : Nat), (putB n x).length = n
  | 0, _ => rfl
  | n + 1, x => by rw [putB, List.length_append, putB_length n]; rfl
theorem getB_putB : ∀ (n x : Nat), x < 256 ^ n → getB (putB n x) = x
  | 0, x, h => by simp at h; subst h; rfl
  | n + 1, x, h => by
    rw [putB, getB_snoc, getB_putB n (x / 256) (by rw [Nat.pow_succ] at h; omega)]
    have : (UInt8.ofNat (x % 256)).toNat = x % 256 := by simp
    rw [this]
    omega

theorem blk_set_byte {w : World} {g : Nat} {t : TypeId} {pre : List UInt8} {old : UInt8} {post : List UInt8} (h : Blk w g t (bs (pre ++ old :: post)).toArray) (q : Int) (c : UInt8) (hq : q = (c.toNat : Int)) :
    Blk (w.setCell ⟨g, pre.length, none⟩ (.int .u8 q)) g t (bs (pre ++ c :: post)).toArray := by
  have := h.set_ pre.length (.int .u8 q)
  have e : (bs (pre ++ old :: post)).toArray.setIfInBounds pre.length (.int .u8 q) = (bs (pre ++ c :: post)).toArray := by
    rw [List.setIfInBounds_toArray, bs_append, bs_append]
    congr 1
    rw [List.set_append_right _ _ (by rw [bs_length]; exact Nat.le_refl _), bs_length, Nat.sub_self]
    subst hq
    rfl
  rwa [e] at this

set_option maxRecDepth 100000 in
set_option maxHeartbeats 1000000 in
theorem put_calls (x n : Nat) (h1 : 1 ≤ n) (h8 : n ≤ 8) (w : World) :
    Calls Try.prog 74 #[.int .u64 x, .int .i64 n] w fun e w' => ∃ v, e = .returned v ∧ OwnB w' w.heap.size 5 v (putB n x) ∧ Below w.heap.size w w' := by
  obtain ⟨i0, hi0, hz0, hz1, hz2⟩ := info_parts byte_info
  have hmk := fun W => run_make_rowN (P := Try.prog) 41 5 i0 _ Try.underlying41 hi0 hz0 .i64 .i64 n n (Nat.le_refl _) (by rw [hz2]; omega) (by omega) W
  have hmz : madeCells (Value.int .u8 0).cells (n * 1) = (bs (List.replicate n 0)).toArray := by
    have e : (bs (List.replicate n 0)) = List.replicate n (.int .u8 0) := by unfold bs; rw [List.map_replicate]; rfl
    rw [e, Nat.mul_one]
    apply Array.ext'
    apply List.ext_getElem
    · simp [madeCells]
    · intro i h1 h2
      simp [madeCells, Value.cells, Nat.mod_one]
  simp only [hz1, hmz] at hmk
  clear hmz
  go_enter Try.func74, Try.ntmps74
  go_wp2
  go_loopw [6, 0] (fun i y wr => ∃ (j z : Nat) (q : Int) (tail : List UInt8), j ≤ n ∧ i = .int .i64 q ∧ q = (j : Int) - 1 ∧ y = .int .u64 z ∧ putB n x = putB j z ++ tail ∧ j + tail.length = n ∧ Blk wr w.heap.size 5 (bs (List.replicate j 0 ++ tail)).toArray ∧ Below w.heap.size w wr) (fun i _ _ => (intOf i + 1).toNat)
  case atStart => exact ⟨n, x, (n : Int) - 1, [], Nat.le_refl _, rfl, rfl, rfl, by simp, by simp, by simpa using Blk.new w _ _, (Below.refl _ _).alloc (Nat.le_refl _) _⟩
  case round =>
    obtain ⟨j, z, q, tail, hj, rfl, hq, rfl, hp, hl, hb, hbw⟩ := hrel
    have HP := Lib.hid hp
    have HLn := Lib.hid hl
    clear hp hl
    cases j with
    | succ m =>
      obtain rfl : q = (m : Int) := by omega
      clear hq
      have hb2 : Blk wr w.heap.size 5 (bs (List.replicate m 0 ++ (0 : UInt8) :: tail)).toArray := by
        have e : List.replicate (m + 1) (0 : UInt8) ++ tail = List.replicate m 0 ++ 0 :: tail := by
          rw [List.replicate_succ', List.append_assoc]; rfl
        rwa [e] at hb
      have hset := blk_set_byte hb2 ((z : Int) % 256) (UInt8.ofNat (z % 256)) (by simp)
      rw [List.length_replicate] at hset
      have hcell := hb2.cell m
      have hfr := hb2.frozen m
      have e : (bs (List.replicate m 0 ++ (0 : UInt8) :: tail)).toArray[m]? = some (.int .u8 0) := by
        rw [List.getElem?_toArray, bs_append, List.getElem?_append_right (by simp [bs_length]), bs_length, List.length_replicate, Nat.sub_self]
        rfl
      rw [e] at hcell
      have hbB := hbw.setCell (p := ⟨w.heap.size, m, none⟩) (Nat.le_refl _) (.int .u8 ((z : Int) % 256))
      clear hb hb2 e hbw
      go_wp2
      go_roundw
      case rel => exact ⟨m, z / 256, (m : Int) - 1, UInt8.ofNat (z % 256) :: tail, by omega, rfl, rfl, by go_num, by rw [HP.out, putB, List.append_assoc]; rfl, by have := HLn.out; simp; omega, hset, hbB⟩
      case measure => simp [intOf]
    | zero =>
      obtain rfl : q = -1 := by simpa using hq
      have hlt := HLn.out
      rw [Nat.zero_add] at hlt
      have hown : OwnB wr w.heap.size 5 (.slice (some ⟨w.heap.size, 0, none⟩) n n) tail := by
        refine ⟨by simp, .inr ⟨w.heap.size, n, (bs tail).toArray, by rw [bs_length, hlt], Nat.le_refl _, (show Blk _ _ _ _ by simpa using hb), by rw [bs_length]; omega, by unfold maxLen; omega, by simp [bs_length, hlt], by simp⟩⟩
      have hpt : putB n x = tail := by rw [HP.out]; rfl
      have HPT := Lib.hid hpt
      clear hpt hlt hq hb
      go_wp2
      go_ret
      exact ⟨_, rfl, by rw [HPT.out]; exact hown, hbw⟩

/-- A short number read: the number, how many bytes, the error. -/
def rdVar : List UInt8 → Nat → Nat → Nat × Nat × Nat
  | [], _, _ => (0, 0, 3)
  | c :: r, i, x =>
    if i = 9 ∧ 1 < c.toNat then (0, 0, 4)
    else if c.toNat < 128 then (if c.toNat = 0 ∧ 0 < i then (0, 0, 4) else (x + c.toNat * 128 ^ i, i + 1, 0))
    else rdVar r (i + 1) (x + (c.toNat - 128) * 128 ^ i)

theorem rd_step (z k : Nat) (b : UInt8) (hz : z < 128 ^ k) (hk : k ≤ 9) (hb : k < 9 ∨ b.toNat ≤ 1) :
    bits BinOp.or IntKind.u64 (z : Int) (IntKind.u64.wrap (IntKind.u64.wrap (bits BinOp.and IntKind.u8 (b.toNat : Int) 127) * 2 ^ (7 * k))) = ((z + b.toNat % 128 * 128 ^ k : Nat) : Int) := by
  have hb8 := b.toNat_lt
  have h1 : bits BinOp.and IntKind.u8 (b.toNat : Int) 127 = ((b.toNat % 128 : Nat) : Int) := by
    have := u8_and_nat b.toNat 127 (by omega) (by omega)
    rw [Nat.and_two_pow_sub_one_eq_mod b.toNat 7] at this
    exact this
  have hp : (128 : Nat) ^ k = 2 ^ (7 * k) := by rw [Nat.pow_mul]
  have hy : b.toNat % 128 * 2 ^ (7 * k) < 18446744073709551616 := by
    rcases hb with h | h
    · have : 2 ^ (7 * k) ≤ 2 ^ 56 := Nat.pow_le_pow_right (by omega) (by omega)
      have h2 : b.toNat % 128 < 128 := Nat.mod_lt _ (by omega)
      calc b.toNat % 128 * 2 ^ (7 * k) ≤ 127 * 2 ^ 56 := Nat.mul_le_mul (by omega) this
        _ < 18446744073709551616 := by decide
    · have : 2 ^ (7 * k) ≤ 2 ^ 63 := Nat.pow_le_pow_right (by omega) (by omega)
      calc b.toNat % 128 * 2 ^ (7 * k) ≤ 1 * 2 ^ 63 := Nat.mul_le_mul (by omega) this
        _ < 18446744073709551616 := by decide
  have hz64 : z < 18446744073709551616 := by
    have : 2 ^ (7 * k) ≤ 2 ^ 63 := Nat.pow_le_pow_right (by omega) (by omega)
    have h3 : (2 : Nat) ^ 63 < 18446744073709551616 := by decide
    omega
  have e : ((b.toNat % 128 : Nat) : Int) * 2 ^ (7 * k) = ((b.toNat % 128 * 2 ^ (7 * k) : Nat) : Int) := by
    rw [Int.natCast_mul, Int.natCast_pow]
    rfl
  have ew : IntKind.u64.wrap ((b.toNat % 128 : Nat) : Int) = ((b.toNat % 128 : Nat) : Int) := PlainAid.u64_nonneg (by omega) (by omega)
  have ew2 : IntKind.u64.wrap ((b.toNat % 128 * 2 ^ (7 * k) : Nat) : Int) = ((b.toNat % 128 * 2 ^ (7 * k) : Nat) : Int) := PlainAid.u64_nonneg (Int.natCast_nonneg _) (by omega)
  rw [h1, ew, e, ew2, u64_or_nat _ _ hz64 hy, Nat.or_comm, nat_join (7 * k) _ _ (Nat.mul_mod_left _ _) (by omega), hp, Nat.add_comm]

set_option maxRecDepth 100000 in
set_option maxHeartbeats 1000000 in
theorem readVar_calls (v : Value) (xs : List UInt8) (w : World) (h : RB w v xs) :
    Calls Try.prog 54 #[v] w fun e w' => e = .returned (.tuple #[.int .u64 ((rdVar xs 0 0).1 : Int), .int .i64 ((rdVar xs 0 0).2.1 : Int), .int .i64 ((rdVar xs 0 0).2.2 : Int)]) ∧ w = w' := by
  obtain ⟨A, c, rfl, hc, hn, hm, hr⟩ := h
  go_enter Try.func54, Try.ntmps54
  go_wp2
  go_loop [10, 5] (fun i y => ∃ (k z : Nat), k ≤ xs.length ∧ k ≤ 9 ∧ i = .int .i64 k ∧ y = .int .u64 z ∧ z < 128 ^ k ∧ rdVar xs 0 0 = rdVar (xs.drop k) k z) (fun i _ => xs.length - (intOf i).toNat)
  case atStart => exact ⟨0, 0, Nat.zero_le _, by omega, rfl, rfl, by decide, rfl⟩
  case round =>
    obtain ⟨k, z, hk, hk9, rfl, rfl, hz, hv⟩ := hrel
    have HZ := Lib.hid hz
    have HV := Lib.hid hv
    clear hz hv
    by_cases hlt : k < xs.length
    · obtain ⟨ad, rfl, hl, hcell⟩ := hr.byte hlt
      have hd : xs.drop k = xs[k] :: xs.drop (k + 1) := List.drop_eq_getElem_cons hl
      have HD := Lib.hid hd
      have hc8 := xs[k].toNat_lt
      clear hd
      generalize xs[k] = b at *
      have h7 : IntKind.i64.wrap (7 * (k : Int)) = 7 * (k : Int) := IntWalk.i64_in _ (by omega)
      by_cases h9 : k = 9 ∧ 1 < b.toNat
      · have hs : rdVar xs 0 0 = (0, 0, 4) := by rw [HV.out, HD.out, rdVar, if_pos h9]
        have HS := Lib.hid hs
        have h91 : ((k : Int) == 9) = true := by rw [beq_iff_eq]; omega
        have h92 : (1 : Int) < (b.toNat : Int) := by omega
        clear hs h9
        go_wp2
        go_ret3
        exact ⟨by rw [HS.out]; rfl, rfl⟩
      · have h9' : k < 9 ∨ b.toNat ≤ 1 := by omega
        have hst := rd_step z k b HZ.out hk9 h9'
        by_cases hb : b.toNat < 128
        · have hb2 : (b.toNat : Int) < 128 := by omega
          have hbm : b.toNat % 128 = b.toNat := Nat.mod_eq_of_lt hb
          rw [hbm] at hst
          have HST := Lib.hid hst
          clear hst hbm
          by_cases h0 : b.toNat = 0 ∧ 0 < k
          · have hs : rdVar xs 0 0 = (0, 0, 4) := by rw [HV.out, HD.out, rdVar, if_neg h9, if_pos hb, if_pos h0]
            have HS := Lib.hid hs
            have h01 : ((b.toNat : Int) == 0) = true := by rw [beq_iff_eq]; omega
            have h02 : (0 : Int) < (k : Int) := by omega
            have h03 : ¬ (1 : Int) < (b.toNat : Int) := by omega
            clear hs h9 h0
            by_cases hk9' : k = 9
            · have h91 : ((k : Int) == 9) = true := by rw [beq_iff_eq]; omega
              clear hk9'
              go_wp2
              go_ret3
              exact ⟨by rw [HS.out]; rfl, rfl⟩
            · have h91 : ((k : Int) == 9) = false := by rw [beq_eq_false_iff_ne]; omega
              go_wp2
              go_ret3
              exact ⟨by rw [HS.out]; rfl, rfl⟩
          · have hs : rdVar xs 0 0 = (z + b.toNat * 128 ^ k, k + 1, 0) := by rw [HV.out, HD.out, rdVar, if_neg h9, if_pos hb, if_neg h0]
            have HS := Lib.hid hs
            clear hs
            by_cases hq0 : b.toNat = 0
            · have hB : ((b.toNat : Int) == 0) = true := by rw [beq_iff_eq]; omega
              have hk0 : ¬ (0 : Int) < (k : Int) := by omega
              have hk9b : ((k : Int) == 9) = false := by rw [beq_eq_false_iff_ne]; omega
              clear h9 h0 hq0
              go_wp2
              go_ret3
              exact ⟨by rw [HS.out, ← HST.out]; rfl, rfl⟩
            · have hB : ((b.toNat : Int) == 0) = false := by rw [beq_eq_false_iff_ne]; omega
              by_cases hk9' : k = 9
              · have h91 : ((k : Int) == 9) = true := by rw [beq_iff_eq]; omega
                have h92 : ¬ (1 : Int) < (b.toNat : Int) := by omega
                clear h9 h0 hq0 hk9'
                go_wp2
                go_ret3
                exact ⟨by rw [HS.out, ← HST.out]; rfl, rfl⟩
              · have h91 : ((k : Int) == 9) = false := by rw [beq_eq_false_iff_ne]; omega
                clear h9 h0 hq0
                go_wp2
                go_ret3
                exact ⟨by rw [HS.out, ← HST.out]; rfl, rfl⟩
        · rcases h9' with h9' | h9'
          · have hs : rdVar xs 0 0 = rdVar (xs.drop (k + 1)) (k + 1) (z + b.toNat % 128 * 128 ^ k) := by
              rw [HV.out, HD.out, rdVar, if_neg h9, if_neg hb, show b.toNat - 128 = b.toNat % 128 by omega]
            have hz2 : z + b.toNat % 128 * 128 ^ k < 128 ^ (k + 1) := by
              have h2 : b.toNat % 128 ≤ 127 := by omega
              have h3 := HZ.out
              have h4 := Nat.mul_le_mul_right (128 ^ k) h2
              rw [Nat.pow_succ]
              omega
            have HS := Lib.hid hs
            have HZ2 := Lib.hid hz2
            have HST := Lib.hid hst
            clear hs hz2 hst
            have hb2 : ¬ (b.toNat : Int) < 128 := by omega
            have h8' : ((k : Int) == 9) = false := by rw [beq_eq_false_iff_ne]; omega
            go_wp2
            go_round
            case rel => exact ⟨k + 1, _, by omega, by omega, by go_num, by rw [HST.out], HZ2.out, HS.out⟩
            case measure => simp [intOf]; omega
          · omega
    · have hs : rdVar xs 0 0 = (0, 0, 3) := by rw [HV.out, List.drop_of_length_le (by omega)]; rfl
      have HS := Lib.hid hs
      clear hs
      go_wp2
      go_ret3
      exact ⟨by rw [HS.out]; rfl, rfl⟩
end Go.Proofs.Ytmfjhejhbomlpaa
