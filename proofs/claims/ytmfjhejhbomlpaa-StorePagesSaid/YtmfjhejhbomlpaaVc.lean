/- Walks of the frame: sums. -/
import Derived.Test.YtmfjhejhbomlpaaVb
import Derived.Test.YtmfjhejhbomlpaaBase3
set_option linter.unusedVariables false
set_option linter.unusedSimpArgs false
namespace Go.Proofs.Ytmfjhejhbomlpaa
open Go.RowKit

/-- One bit of a sum; one byte; all. -/
def crcBit (p : Int) : Int := bits BinOp.xor IntKind.u32 (p / 2) (bits BinOp.and IntKind.u32 3988292384 (-bits BinOp.and IntKind.u32 p 1 % 4294967296))
def crcBits (q : Int) : Nat → Int
  | 0 => q
  | m + 1 => crcBit (crcBits q m)
def crcByte (q : Int) (c : UInt8) : Int := crcBits (bits BinOp.xor IntKind.u32 q ((c.toNat : Int) % 4294967296)) 8
def crcTo (xs : List UInt8) : Int := xs.foldl crcByte 4294967295
def crc (xs : List UInt8) : Int := bits BinOp.xor IntKind.u32 IntKind.u32.max (crcTo xs)

set_option maxRecDepth 100000 in
set_option maxHeartbeats 1000000 in
theorem sum_calls (v : Value) (xs : List UInt8) (w : World) (h : RB w v xs) :
    Calls Try.prog 68 #[v] w fun e w' => e = .returned (.int .u32 (crc xs)) ∧ w = w' := by
  obtain ⟨A, c, rfl, hc, hn, hm, hr⟩ := h
  go_enter Try.func68, Try.ntmps68
  go_wp2
  go_loop [8, 3] (fun i y => ∃ (k : Nat) (q : Int), k ≤ xs.length ∧ i = .int .i64 k ∧ y = .int .u32 q ∧ q = crcTo (xs.take k)) (fun i _ => xs.length - (intOf i).toNat)
  case atStart => exact ⟨0, _, Nat.zero_le _, rfl, rfl, rfl⟩
  case round =>
    obtain ⟨k, q, hk, rfl, rfl, hq⟩ := hrel
    have HQ := Lib.hid hq
    clear hq
    by_cases hlt : k < xs.length
    · obtain ⟨ad, rfl, hl, hcell⟩ := hr.byte hlt
      have hs : crcTo (xs.take (k + 1)) = crcByte q xs[k] := by rw [List.take_succ_eq_append_getElem hl, crcTo, List.foldl_append, HQ.out]; rfl
      have HS := Lib.hid hs
      clear hs
      go_wp2
      go_loop [16, 3] (fun j y => ∃ (m : Nat) (p : Int), m ≤ 8 ∧ j = .int .i64 m ∧ y = .int .u32 p ∧ p = crcBits (bits BinOp.xor IntKind.u32 q ((xs[k].toNat : Int) % 4294967296)) m) (fun j _ => 8 - (intOf j).toNat)
      case atStart => exact ⟨0, _, Nat.zero_le _, rfl, rfl, rfl⟩
      case round =>
        obtain ⟨m, p, hm8, rfl, rfl, hp⟩ := hrel
        have HP := Lib.hid hp
        clear hp
        by_cases hlt8 : m < 8
        · go_wp2
          go_round
          case rel => exact ⟨m + 1, _, by omega, by go_num, rfl, by rw [crcBits, ← HP.out]; rfl⟩
          case measure => simp [intOf]; omega
        · obtain rfl : m = 8 := by omega
          go_wp2
          go_round
          case rel => exact ⟨k + 1, p, by omega, by go_num, rfl, by rw [HS.out, HP.out]; rfl⟩
          case measure => simp [intOf]; omega
    · have hs : crc xs = bits BinOp.xor IntKind.u32 IntKind.u32.max q := by rw [crc, HQ.out, List.take_of_length_le (by omega)]
      have HS := Lib.hid hs
      clear hs
      go_wp2
      go_ret
      exact ⟨ret_int HS.out.symm, rfl⟩

/-- A sum as bytes, the lowest first. -/
def lowB (q : Int) : List UInt8 := [UInt8.ofNat (q % 256).toNat, UInt8.ofNat (q / 256 % 256).toNat, UInt8.ofNat (q / 65536 % 256).toNat, UInt8.ofNat (q / 16777216 % 256).toNat]
theorem low_cell (q : Int) : ((UInt8.ofNat (q % 256).toNat).toNat : Int) = q % 256 := by
  have h0 : 0 ≤ q % 256 := Int.emod_nonneg _ (by decide)
  have h1 : q % 256 < 256 := Int.emod_lt_of_pos _ (by decide)
  simp
  omega

set_option maxRecDepth 100000 in
theorem low_calls (q : Int) (w : World) :
    Calls Try.prog 75 #[.int .u32 q] w fun e w' => ∃ v, e = .returned v ∧ OwnB w' w.heap.size 5 v (lowB q) ∧ Below w.heap.size w w' := by
  go_enter Try.func75, Try.ntmps75
  go_wp2
  go_ret
  refine ⟨_, rfl, ?_, (Below.refl _ _).alloc (Nat.le_refl _) _⟩
  have e : bs (lowB q) = [.int .u8 (q % 256), .int .u8 (q / 256 % 256), .int .u8 (q / 65536 % 256), .int .u8 (q / 16777216 % 256)] := by
    simp only [bs, lowB, List.map_cons, List.map_nil, low_cell]
  have := Own.made w w.heap.size 5 (bs (lowB q)) (Nat.le_refl _) (by rw [bs_length]; show 4 ≤ maxLen; decide)
  rw [bs_length] at this
  unfold OwnB
  rw [e] at this ⊢
  exact this

theorem size_calls (n : Nat) (hn : n ≤ 1000000000) (w : World) :
    Calls Try.prog 65 #[.int .i64 n] w fun e w' => e = .returned (.int .i64 ((n + 20 : Nat) : Int)) ∧ w = w' := by
  go_enter Try.func65, Try.ntmps65
  go_wp2
  go_ret
  exact ⟨ret_int (by omega), rfl⟩

/-- Whether four bytes stand at a place. -/
def standsB (xs : List UInt8) (k : Nat) (q : Int) : Bool := (xs.drop k).take 4 == lowB q
theorem take4 (xs : List UInt8) (k : Nat) (hk : k + 4 ≤ xs.length) : (xs.drop k).take 4 = [xs[k], xs[k + 1], xs[k + 2], xs[k + 3]] := by
  rw [List.drop_eq_getElem_cons (by omega), List.drop_eq_getElem_cons (by omega), List.drop_eq_getElem_cons (by omega), List.drop_eq_getElem_cons (by omega)]
  rfl
theorem addr_pos (a : Addr) (n : Nat) (h : n ≠ 0) : a.add n = ⟨a.block, a.off + n, none⟩ := by unfold Addr.add; rw [if_neg h]
theorem u8_eq {a b : UInt8} (h : (a == b) = true) : ((a.toNat : Int) == (b.toNat : Int)) = true := by
  rw [beq_iff_eq] at h ⊢
  rw [h]
theorem u8_ne {a b : UInt8} (h : (a == b) = false) : ((a.toNat : Int) == (b.toNat : Int)) = false := by
  rw [beq_eq_false_iff_ne] at h ⊢
  intro e
  exact h (UInt8.toNat_inj.1 (by omega))
theorem u8_neq {a b : UInt8} (h : (a == b) = true) : ((a.toNat : Int) != (b.toNat : Int)) = false := by
  rw [bne, u8_eq h]; rfl
theorem u8_nne {a b : UInt8} (h : (a == b) = false) : ((a.toNat : Int) != (b.toNat : Int)) = true := by
  rw [bne, u8_ne h]; rfl

set_option maxRecDepth 100000 in
set_option maxHeartbeats 4000000 in
theorem stands_calls (v : Value) (xs : List UInt8) (k : Nat) (q : Int) (w : World) (h : RB w v xs) (hk : k + 4 ≤ xs.length) :
    Calls Try.prog 67 #[v, .int .i64 k, .int .u32 q] w fun e w' => e = .returned (.bool (standsB xs k q)) ∧ Below w.heap.size w w' := by
  obtain ⟨A, c, rfl, hc, hn, hm, hr⟩ := h
  have ht := take4 xs k hk
  obtain ⟨ad, rfl, hl0, hc0⟩ := hr.byte (show k < xs.length by omega)
  obtain ⟨_, e1, hl1, hc1⟩ := hr.byte (show k + 1 < xs.length by omega)
  injection e1 with e1; subst e1
  obtain ⟨_, e1, hl2, hc2⟩ := hr.byte (show k + 2 < xs.length by omega)
  injection e1 with e1; subst e1
  obtain ⟨_, e1, hl3, hc3⟩ := hr.byte (show k + 3 < xs.length by omega)
  injection e1 with e1; subst e1
  generalize xs[k] = x0 at *
  generalize xs[k + 1] = x1 at *
  generalize xs[k + 2] = x2 at *
  generalize xs[k + 3] = x3 at *
  obtain ⟨y0, y1, y2, y3, hy⟩ : ∃ y0 y1 y2 y3, lowB q = [y0, y1, y2, y3] := ⟨_, _, _, _, rfl⟩
  have hst : standsB xs k q = ((x0 == y0) && ((x1 == y1) && ((x2 == y2) && (x3 == y3)))) := by
    unfold standsB
    rw [ht, hy]
    show (x0 == y0 && (x1 == y1 && (x2 == y2 && (x3 == y3 && true)))) = _
    rw [Bool.and_true]
  have HST := Lib.hid hst
  have HY := Lib.hid hy
  clear hst hy ht hr
  go_enter Try.func67, Try.ntmps67
  go_wp2_with (go_at_call 75; refine (low_calls _ _).mono ?_; rintro e w1 ⟨v1, rfl, hown, hb⟩)
  rw [HY.out] at hown
  obtain ⟨A1, cp1, hv1, hcp1, hr1⟩ := Own.reads hown
  have hv2 : v1 = .slice A1 4 cp1 := hv1
  clear hv1 hown
  subst hv2
  have hr2 : Reads w1 w1.heap.size 1 A1 4 (bs [y0, y1, y2, y3]) := hr1
  clear hr1
  obtain ⟨a1, e1, _, hd0⟩ := hr2.byte (show 0 < 4 by omega)
  subst e1
  obtain ⟨_, e1, _, hd1⟩ := hr2.byte (show 1 < 4 by omega)
  injection e1 with e1; subst e1
  obtain ⟨_, e1, _, hd2⟩ := hr2.byte (show 2 < 4 by omega)
  injection e1 with e1; subst e1
  obtain ⟨_, e1, _, hd3⟩ := hr2.byte (show 3 < 4 by omega)
  injection e1 with e1; subst e1
  simp only [List.getElem_cons_zero, List.getElem_cons_succ] at hd0 hd1 hd2 hd3
  rw [show a1.add 0 = a1 from rfl] at hd0
  have hb0 : ∀ {p : Addr} {u : Value}, w.cell? p = some u → w1.cell? p = some u := fun hp => (hb.cell (World.block_lt_of_cell? _ _ hp)).trans hp
  replace hc0 := hb0 hc0
  replace hc1 := hb0 hc1
  replace hc2 := hb0 hc2
  replace hc3 := hb0 hc3
  clear hb0 hr2
  rw [addr_pos _ _ (by omega)] at hc1 hc2 hc3 hd1 hd2 hd3
  have w1' : IntKind.i64.wrap ((k : Int) + 1) = (k : Int) + 1 := IntWalk.i64_in _ (by omega)
  have w2' : IntKind.i64.wrap ((k : Int) + 2) = (k : Int) + 2 := IntWalk.i64_in _ (by omega)
  have w3' : IntKind.i64.wrap ((k : Int) + 3) = (k : Int) + 3 := IntWalk.i64_in _ (by omega)
  have p0 : (0 : Int) ≤ (k : Int) := by omega
  have p1 : (0 : Int) ≤ (k : Int) + 1 := by omega
  have p2 : (0 : Int) ≤ (k : Int) + 2 := by omega
  have p3 : (0 : Int) ≤ (k : Int) + 3 := by omega
  have q0 : (k : Int) < (xs.length : Int) := by omega
  have q1 : (k : Int) + 1 < (xs.length : Int) := by omega
  have q2 : (k : Int) + 2 < (xs.length : Int) := by omega
  have q3 : (k : Int) + 3 < (xs.length : Int) := by omega
  have t1 : ((k : Int) + 1).toNat = k + 1 := by omega
  have t2 : ((k : Int) + 2).toNat = k + 2 := by omega
  have t3 : ((k : Int) + 3).toNat = k + 3 := by omega
  cases h0 : (x0 == y0)
  · have g0 := u8_ne h0
    have H0 := Lib.hid h0
    clear h0
    go_quiet (fail)
    go_wp2
    go_ret
    exact ⟨ret_bool (by rw [HST.out, H0.out]; rfl), Below.drewN hb _⟩
  · have g0 := u8_eq h0
    have H0 := Lib.hid h0
    clear h0
    cases h1 : (x1 == y1)
    · have g1 := u8_ne h1
      have H1 := Lib.hid h1
      clear h1
      go_quiet (fail)
      go_wp2
      go_ret
      exact ⟨ret_bool (by rw [HST.out, H0.out, H1.out]; rfl), Below.drewN hb _⟩
    · have g1 := u8_eq h1
      have H1 := Lib.hid h1
      clear h1
      cases h2 : (x2 == y2)
      · have g2 := u8_ne h2
        have H2 := Lib.hid h2
        clear h2
        go_quiet (fail)
        go_wp2
        go_ret
        exact ⟨ret_bool (by rw [HST.out, H0.out, H1.out, H2.out]; rfl), Below.drewN hb _⟩
      · have g2 := u8_eq h2
        have H2 := Lib.hid h2
        clear h2
        cases h3 : (x3 == y3)
        · have g3 := u8_ne h3
          have H3 := Lib.hid h3
          clear h3
          go_quiet (fail)
          go_wp2
          go_ret
          exact ⟨ret_bool (by rw [HST.out, H0.out, H1.out, H2.out, H3.out]; rfl), Below.drewN hb _⟩
        · have g3 := u8_eq h3
          have H3 := Lib.hid h3
          clear h3
          go_quiet (fail)
          go_wp2
          go_ret
          exact ⟨ret_bool (by rw [HST.out, H0.out, H1.out, H2.out, H3.out]; rfl), Below.drewN hb _⟩
end Go.Proofs.Ytmfjhejhbomlpaa
