/- Walks of the frame: a frame read back. -/
import Derived.Test.YtmfjhejhbomlpaaVd
set_option linter.unusedVariables false
set_option linter.unusedSimpArgs false
namespace Go.Proofs.Ytmfjhejhbomlpaa
open Go.RowKit

theorem results_tmp4 {fn : Func} {t u v x : Tmp} (h : fn.results = #[.tmp t, .tmp u, .tmp v, .tmp x]) (tmps : Array Value) (P : Program) (w : World) :
    (results fn tmps).run P w = .ok (.tuple #[tmps.getD t undef, tmps.getD u undef, tmps.getD v undef, tmps.getD x undef]) w := by simp [results, h]
theorem getB_8 (seq : Nat) (h : seq < 2 ^ 64) : getB (putB 8 seq) = seq := getB_putB 8 seq (by simpa using h)
theorem getB_4 (n : Nat) (h : n ≤ 16384) : getB (putB 4 n) = n := getB_putB 4 n (by omega)
/-- The parts of a frame. -/
theorem frame_parts (seq : Nat) (b rest : List UInt8) : frameB seq b ++ rest = putB 4 b.length ++ (putB 8 seq ++ (lowB (crc (headB seq b)) ++ (b ++ (lowB (crc b) ++ rest)))) := by
  simp only [frameB, headB, List.append_assoc]
theorem take_app {α : Type} (a b : List α) (n : Nat) (h : a.length = n) : (a ++ b).take n = a := by subst h; simp
theorem drop_app {α : Type} (a b : List α) (n : Nat) (h : a.length = n) : (a ++ b).drop n = b := by subst h; simp
theorem frame_take12 (seq : Nat) (b rest : List UInt8) : (frameB seq b ++ rest).take 12 = headB seq b := by
  rw [show frameB seq b ++ rest = headB seq b ++ (lowB (crc (headB seq b)) ++ (b ++ (lowB (crc b) ++ rest))) by simp only [frameB, List.append_assoc]]
  exact take_app _ _ _ (headB_length seq b)
theorem frame_stands1 (seq : Nat) (b rest : List UInt8) : standsB (frameB seq b ++ rest) 12 (crc (headB seq b)) = true := by
  unfold standsB
  rw [show frameB seq b ++ rest = headB seq b ++ (lowB (crc (headB seq b)) ++ (b ++ (lowB (crc b) ++ rest))) by simp only [frameB, List.append_assoc], drop_app _ _ _ (headB_length seq b), take_app _ _ 4 rfl]
  exact beq_self_eq_true _
theorem frame_take4 (seq : Nat) (b rest : List UInt8) : (frameB seq b ++ rest).take 4 = putB 4 b.length := by rw [frame_parts]; exact take_app _ _ _ (putB_length _ _)
theorem frame_seq (seq : Nat) (b rest : List UInt8) : ((frameB seq b ++ rest).drop 4).take 8 = putB 8 seq := by
  rw [frame_parts, drop_app _ _ _ (putB_length _ _)]
  exact take_app _ _ _ (putB_length _ _)
theorem frame_drop16 (seq : Nat) (b rest : List UInt8) : (frameB seq b ++ rest).drop 16 = b ++ (lowB (crc b) ++ rest) := by
  rw [show frameB seq b ++ rest = (headB seq b ++ lowB (crc (headB seq b))) ++ (b ++ (lowB (crc b) ++ rest)) by simp only [frameB, List.append_assoc]]
  exact drop_app _ _ _ (by rw [List.length_append, headB_length, lowB_length])
theorem frame_text (seq : Nat) (b rest : List UInt8) : ((frameB seq b ++ rest).drop 16).take b.length = b := by rw [frame_drop16]; exact take_app _ _ _ rfl
theorem frame_stands2 (seq : Nat) (b rest : List UInt8) : standsB (frameB seq b ++ rest) (16 + b.length) (crc b) = true := by
  unfold standsB
  rw [← List.drop_drop, frame_drop16, drop_app _ _ _ rfl, take_app _ _ 4 rfl]
  exact beq_self_eq_true _

set_option maxRecDepth 100000 in
set_option maxHeartbeats 2000000 in
theorem fread_calls (v : Value) (seq : Nat) (b rest : List UInt8) (w : World) (h : RB w v (frameB seq b ++ rest)) (hs : 1 ≤ seq) (hs2 : seq < 2 ^ 64) (hb : b.length ≤ 16384) :
    Calls Try.prog 51 #[v] w fun e w' => ∃ v, e = .returned (.tuple #[.int .u64 (seq : Int), v, .int .i64 ((b.length + 20 : Nat) : Int), .int .i64 0]) ∧ OwnB w' w.heap.size 5 v b ∧ Below w.heap.size w w' := by
  have hrb := h
  obtain ⟨A, c, rfl, hc, hn, hm, hr⟩ := h
  have hlen : (frameB seq b ++ rest).length = b.length + 20 + rest.length := by rw [List.length_append, frameB_length]
  obtain ⟨ad, rfl, _⟩ := hr.2 (by omega)
  obtain ⟨n, hnl⟩ : ∃ n, (frameB seq b ++ rest).length = n := ⟨_, rfl⟩
  rw [hnl] at hlen hc hn hr hrb ⊢
  have r12 := RB.take hrb (show 12 ≤ n by omega)
  rw [frame_take12] at r12
  have r4 := RB.take hrb (show 4 ≤ n by omega)
  rw [frame_take4] at r4
  have r8 := RB.take (RB.drop hrb (show 4 ≤ n by omega)) (show 8 ≤ n - 4 by omega)
  rw [frame_seq, if_neg (by omega)] at r8
  have rt := RB.take (RB.drop hrb (show 16 ≤ n by omega)) (show b.length ≤ n - 16 by omega)
  rw [frame_text, if_neg (by omega)] at rt
  have hs0 : ((seq : Int) == 0) = false := by rw [beq_eq_false_iff_ne]; omega
  have s1 := frame_stands1 seq b rest
  have s2 := frame_stands2 seq b rest
  have g4 := getB_4 b.length hb
  have g8 := getB_8 seq hs2
  have S1 := Lib.hid s1
  have S2 := Lib.hid s2
  have G4 := Lib.hid g4
  have G8 := Lib.hid g8
  have HNL := Lib.hid hnl
  have HSS := Lib.hid hs2
  have hn2 : b.length + 20 ≤ n := by omega
  unfold maxLen at hm
  clear s1 s2 g4 g8 hnl hlen hs2
  have st12 : Calls Try.prog 67 #[.slice (some ad) n c, .int .i64 12, .int .u32 (crc (headB seq b))] w fun e w' => e = .returned (.bool true) ∧ Below w.heap.size w w' := by
    have := stands_calls _ _ 12 (crc (headB seq b)) w hrb (by rw [HNL.out]; omega)
    rw [S1.out] at this
    exact this
  have stn : ∀ w1, Below w.heap.size w w1 → Calls Try.prog 67 #[.slice (some ad) n c, .int .i64 (16 + (b.length : Int)), .int .u32 (crc b)] w1 fun e w' => e = .returned (.bool true) ∧ Below w1.heap.size w1 w' := by
    intro w1 hb1
    have := stands_calls _ _ (16 + b.length) (crc b) w1 (RB.below hrb hb1) (by rw [HNL.out]; omega)
    rw [S2.out] at this
    exact this
  have g4c : ∀ w1, Below w.heap.size w w1 → Calls Try.prog 69 #[.slice (some ad) 4 c] w1 fun e w' => e = .returned (.tuple #[.int .u64 (b.length : Int), .bool true]) ∧ w1 = w' := by
    intro w1 hb1
    have := get_calls _ _ w1 (RB.below r4 hb1) (by rw [putB_length]; omega) (by rw [putB_length]; omega)
    rw [G4.out] at this
    exact this
  have g8c : ∀ w1, Below w.heap.size w w1 → Calls Try.prog 69 #[.slice (Option.map (fun x => x.add 4) (some ad)) 8 (c - 4)] w1 fun e w' => e = .returned (.tuple #[.int .u64 (seq : Int), .bool true]) ∧ w1 = w' := by
    intro w1 hb1
    have := get_calls _ _ w1 (RB.below r8 hb1) (by rw [putB_length]; omega) (by rw [putB_length]; omega)
    rw [G8.out] at this
    exact this
  simp only [Option.map_some, addr_pos ad 4 (by omega)] at g8c
  simp only [Option.map_some, addr_pos ad 16 (by omega)] at rt
  have hrt : Reads w w.heap.size 1 (some ⟨ad.block, ad.off + 16, none⟩) b.length (bs b) := by
    obtain ⟨A', c', he, _, _, _, hrt⟩ := rt
    injection he with he1 he2 he3
    subst he1
    exact hrt
  have ST12 := Lib.hid st12
  have STN := Lib.hid stn
  have G4C := Lib.hid g4c
  have G8C := Lib.hid g8c
  clear st12 stn g4c g8c
  go_enter Try.func51, Try.ntmps51
  go_wp2_with (first
    | (go_at_call 68; ((with_reducible refine (sum_calls _ _ _ r12).mono ?_); rintro e w' ⟨rfl, rfl⟩))
    | (go_at_call 67; ((with_reducible refine ST12.out.mono ?_); rintro e w1 ⟨rfl, hb1⟩))
    | (go_at_call 69; ((with_reducible refine (G4C.out _ hb1).mono ?_); rintro e w' ⟨rfl, rfl⟩))
    | (go_at_call 69; ((with_reducible refine (G8C.out _ hb1).mono ?_); rintro e w' ⟨rfl, rfl⟩))
    | (go_at_call 68; ((with_reducible refine (sum_calls _ _ _ (RB.below rt hb1)).mono ?_); rintro e w' ⟨rfl, rfl⟩))
    | (go_at_call 67; ((with_reducible refine (STN.out _ hb1).mono ?_); rintro e w2 ⟨rfl, hb2⟩; have hbw2 := Below.step hb1 hb1.size hb2))
    | (at_builtin; (refine wpList_appendAll rfl (.const (.slice none 0 0)) (.tmp 57) 41 5 _ 1 rfl Try.underlying41 byte_info rfl (by omega) (.slice none 0 0) [] rfl _ _ _ (bs b) rfl w.heap.size (by rw [Nat.add_sub_cancel_left]; exact hrt.below hbw2) (bs_one _) (Own.nil _ _ _) hbw2 hbw2.size (by simp; omega) ?_; intro v8 w8 hown8 hb8 hg8 hat8)))
  refine bodyPost_ret (results_tmp4 rfl _ _ _) rfl ?_
  exact ⟨v8, by rw [Int.natCast_add]; rfl, hown8, hb8⟩
end Go.Proofs.Ytmfjhejhbomlpaa
