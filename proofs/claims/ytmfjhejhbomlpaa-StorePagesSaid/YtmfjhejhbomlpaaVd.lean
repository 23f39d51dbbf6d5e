/- Walks of the frame: put and read. -/
import Derived.Test.YtmfjhejhbomlpaaVc
set_option linter.unusedVariables false
set_option linter.unusedSimpArgs false
namespace Go.Proofs.Ytmfjhejhbomlpaa
open Go.RowKit

def headB (seq : Nat) (b : List UInt8) : List UInt8 := putB 4 b.length ++ putB 8 seq
def frameB (seq : Nat) (b : List UInt8) : List UInt8 := headB seq b ++ lowB (crc (headB seq b)) ++ b ++ lowB (crc b)
theorem lowB_length (q : Int) : (lowB q).length = 4 := rfl
theorem headB_length (seq : Nat) (b : List UInt8) : (headB seq b).length = 12 := by rw [headB, List.length_append, putB_length, putB_length]
theorem frameB_length (seq : Nat) (b : List UInt8) : (frameB seq b).length = b.length + 20 := by
  simp only [frameB, List.length_append, lowB_length, headB_length]
  omega
theorem put4 (x : Nat) (w : World) : Calls Try.prog 74 #[.int .u64 x, .int .i64 4] w fun e w' => ∃ v, e = .returned v ∧ OwnB w' w.heap.size 5 v (putB 4 x) ∧ Below w.heap.size w w' := put_calls x 4 (by omega) (by omega) w
theorem put8 (x : Nat) (w : World) : Calls Try.prog 74 #[.int .u64 x, .int .i64 8] w fun e w' => ∃ v, e = .returned v ∧ OwnB w' w.heap.size 5 v (putB 8 x) ∧ Below w.heap.size w w' := put_calls x 8 (by omega) (by omega) w

set_option maxRecDepth 100000 in
set_option maxHeartbeats 2000000 in
theorem fput_calls (seq : Nat) (v : Value) (xs : List UInt8) (w : World) (h : RB w v xs) (hs : 1 ≤ seq) (hx : xs.length ≤ 16384) :
    Calls Try.prog 58 #[.int .u64 seq, v] w fun e w' => ∃ v, e = .returned (.tuple #[v, .int .i64 0]) ∧ OwnB w' w.heap.size 5 v (frameB seq xs) ∧ Below w.heap.size w w' := by
  have hrb := h
  obtain ⟨A, c, rfl, hc, hn, hm, hr⟩ := h
  have hs0 : ((seq : Int) == 0) = false := by rw [beq_eq_false_iff_ne]; omega
  have hh12 := headB_length seq xs
  have HH := Lib.hid hh12
  clear hh12
  go_enter Try.func58, Try.ntmps58
  go_wp2_with (first
    | (go_at_call 74; ((with_reducible refine (put4 _ _).mono ?_); rintro e w1 ⟨v1, rfl, hown1, hb1⟩))
    | (go_at_call 74; ((with_reducible refine (put8 _ _).mono ?_); rintro e w2 ⟨v2, rfl, hown2, hb2⟩; obtain ⟨A2, c2, hv2, hc2, hr2⟩ := Own.reads hown2; subst hv2; have hown1' := Own.below hown1 hb2; have hbw2 := Below.step hb1 hb1.size hb2))
    | (at_builtin; refine wpList_appendAll rfl (.tmp 15) (.tmp 17) 41 5 _ 1 rfl Try.underlying41 byte_info rfl (by omega) v1 (bs (putB 4 xs.length)) rfl A2 (bs (putB 8 seq)).length c2 (bs (putB 8 seq)) rfl w2.heap.size hr2 (bs_one _) hown1' hbw2 hbw2.size (by simp [bs_length, putB_length]) ?_; intro v3 w3 hown3 hb3 hg3 hat3; rw [← bs_append] at hown3; replace hown3 : OwnB w3 w.heap.size _ v3 (headB seq xs) := hown3; have hrb3 := OwnB.rb hown3 (by rw [HH.out]; omega))
    | (go_at_call 68; ((with_reducible refine (sum_calls _ _ _ hrb3).mono ?_); rintro e w' ⟨rfl, rfl⟩))
    | (go_at_call 75; ((with_reducible refine (low_calls (crc (headB seq xs)) w3).mono ?_); rintro e w4 ⟨v4, rfl, hown4, hb4⟩; obtain ⟨A4, c4, hv4, hc4, hr4⟩ := Own.reads hown4; subst hv4; have hown3' := Own.below hown3 hb4; have hbw4 := Below.step hb3 hb3.size hb4))
    | (at_builtin; refine wpList_appendAll rfl (.tmp 19) (.tmp 22) 41 5 _ 1 rfl Try.underlying41 byte_info rfl (by omega) v3 (bs (headB seq xs)) rfl A4 (bs (lowB (crc (headB seq xs)))).length c4 (bs (lowB (crc (headB seq xs)))) rfl w4.heap.size hr4 (bs_one _) hown3' hbw4 hbw4.size (by rw [bs_length, bs_length, HH.out, lowB_length]; omega) ?_; intro v5 w5 hown5 hb5 hg5 hat5; rw [← bs_append] at hown5; have hrb5 := RB.below hrb (by exact hb5))
    | (at_builtin; refine wpList_appendAll rfl (.tmp 24) (.tmp 25) 41 5 _ 1 rfl Try.underlying41 byte_info rfl (by omega) v5 (bs (headB seq xs ++ lowB (crc (headB seq xs)))) rfl A xs.length c (bs xs) rfl w.heap.size (hr.below hb5) (bs_one _) hown5 hb5 hb5.size (by rw [bs_length, List.length_append, HH.out, lowB_length]; omega) ?_; intro v6 w6 hown6 hb6 hg6 hat6; rw [← bs_append] at hown6; have hrb6 := RB.below hrb hb6)
    | (go_at_call 68; ((with_reducible refine (sum_calls _ _ _ hrb6).mono ?_); rintro e w' ⟨rfl, rfl⟩))
    | (go_at_call 75; ((with_reducible refine (low_calls (crc xs) w6).mono ?_); rintro e w7 ⟨v7, rfl, hown7, hb7⟩; obtain ⟨A7, c7, hv7, hc7, hr7⟩ := Own.reads hown7; subst hv7; have hown6' := Own.below hown6 hb7; have hbw7 := Below.step hb6 hb6.size hb7))
    | (at_builtin; refine wpList_appendAll rfl (.tmp 27) (.tmp 30) 41 5 _ 1 rfl Try.underlying41 byte_info rfl (by omega) v6 (bs (headB seq xs ++ lowB (crc (headB seq xs)) ++ xs)) rfl A7 (bs (lowB (crc xs))).length c7 (bs (lowB (crc xs))) rfl w7.heap.size hr7 (bs_one _) hown6' hbw7 hbw7.size (by rw [bs_length, bs_length, List.length_append, List.length_append, HH.out, lowB_length, lowB_length]; omega) ?_; intro v8 w8 hown8 hb8 hg8 hat8; rw [← bs_append] at hown8))
  go_ret2
  exact ⟨v8, rfl, hown8, hb8⟩
end Go.Proofs.Ytmfjhejhbomlpaa
