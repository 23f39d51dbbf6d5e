/- Walks of the disk: made. -/
import Derived.Test.YtmfjhejhbomlpaaWg
set_option linter.unusedVariables false
set_option linter.unusedSimpArgs false
namespace Go.Proofs.Ytmfjhejhbomlpaa
open Go.RowKit

def blankS : List UInt8 := List.replicate 64 0
def DM.new (n : Nat) : DM := ⟨List.replicate n blankS, List.replicate n blankS, [], false, 0, false⟩
theorem secs_blank (n : Nat) : secs (List.replicate n blankS) = List.replicate (n * 64) (.int .u8 0) := by
  induction n with
  | zero => rfl
  | succ n ih =>
    rw [List.replicate_succ]
    have e : secs (blankS :: List.replicate n blankS) = bs blankS ++ secs (List.replicate n blankS) := by simp [secs]
    have e2 : bs blankS = List.replicate 64 (.int .u8 0) := by simp [bs, blankS]
    rw [e, ih, e2, List.replicate_append_replicate, show 64 + n * 64 = (n + 1) * 64 by omega]
theorem DM.new_ok (n : Nat) (h1 : 1 ≤ n) (h2 : n ≤ 4096) : (DM.new n).ok := by
  refine ⟨rfl, by simpa [DM.new] using h1, by simpa [DM.new] using h2, ?_, ?_, by simp [DM.new], by simp [DM.new], Nat.zero_le _⟩
  · intro s hs
    rw [(List.mem_replicate.1 hs).2]
    rfl
  · intro s hs
    rw [(List.mem_replicate.1 hs).2]
    rfl

theorem made_replicate (m n : Nat) (v : Value) (hm : 0 < m) : madeCells (List.replicate m v).toArray (n * m) = (List.replicate (n * m) v).toArray := by
  apply Array.ext'
  apply List.ext_getElem
  · simp [madeCells]
  · intro i h1 h2
    have hi : i % m < m := Nat.mod_lt _ hm
    simp [madeCells, hi]
theorem made_secs (n : Nat) : madeCells (bs (List.replicate 64 0)).toArray (n * 64) = (secs (List.replicate n blankS)).toArray := by
  rw [secs_blank]
  have e2 : bs (List.replicate 64 0) = List.replicate 64 (.int .u8 0) := by unfold bs; rw [List.map_replicate]; rfl
  rw [e2, made_replicate 64 n _ (by omega)]
theorem disk_new (w : World) (n : Nat) (h1 : 1 ≤ n) (h2 : n ≤ 4096) (bf bn : Nat) (h : (bf = w.heap.size ∧ bn = w.heap.size + 1) ∨ (bf = w.heap.size + 1 ∧ bn = w.heap.size)) :
    DiskB (((w.alloc (.cells (secs (List.replicate n blankS)).toArray 97)).alloc (.cells (secs (List.replicate n blankS)).toArray 97)).alloc (.cells #[.slice (some ⟨bf, 0, none⟩) n n, .slice (some ⟨bn, 0, none⟩) n n, .slice none 0 0, .bool false, .int .i64 0, .bool false] 72)) (w.heap.size + 1 + 1) bf bn (.slice none 0 0) (DM.new n) := by
  have hl : (DM.new n).now.length = n := by simp [DM.new]
  have b0 : Blk ((w.alloc (.cells (secs (List.replicate n blankS)).toArray 97)).alloc (.cells (secs (List.replicate n blankS)).toArray 97)) w.heap.size 97 (secs (List.replicate n blankS)).toArray := (Blk.new w _ _).alloc _
  have b1 : Blk ((w.alloc (.cells (secs (List.replicate n blankS)).toArray 97)).alloc (.cells (secs (List.replicate n blankS)).toArray 97)) (w.heap.size + 1) 97 (secs (List.replicate n blankS)).toArray := by
    have := Blk.new (w.alloc (.cells (secs (List.replicate n blankS)).toArray 97)) 97 (secs (List.replicate n blankS)).toArray
    simpa using this
  have b2 := Blk.new ((w.alloc (.cells (secs (List.replicate n blankS)).toArray 97)).alloc (.cells (secs (List.replicate n blankS)).toArray 97)) 72 #[.slice (some ⟨bf, 0, none⟩) n n, .slice (some ⟨bn, 0, none⟩) n n, .slice none 0 0, .bool false, .int .i64 0, .bool false]
  rcases h with ⟨rfl, rfl⟩ | ⟨rfl, rfl⟩
  · exact ⟨by rw [hl]; simpa [DM.new] using b2, b0.alloc _, b1.alloc _, ⟨by simp [DM.new, wrs], .inl ⟨rfl, rfl⟩⟩, DM.new_ok n h1 h2, by omega⟩
  · exact ⟨by rw [hl]; simpa [DM.new] using b2, b1.alloc _, b0.alloc _, ⟨by simp [DM.new, wrs], .inl ⟨rfl, rfl⟩⟩, DM.new_ok n h1 h2, by omega⟩
theorem sector_info : (Try.prog.info? 97).map (fun i => (i.zero, i.size, i.bytes)) = some (some (.agg (bs (List.replicate 64 0)).toArray), 64, 64) := by kernel_rfl
set_option maxRecDepth 100000 in
set_option maxHeartbeats 1000000 in
theorem new_ok (n : Nat) (h1 : 1 ≤ n) (h2 : n ≤ 4096) (w : World) :
    Calls Try.prog 9 #[.int .i64 n] w fun e w' => ∃ b F, e = .returned (.tuple #[.pointer (some ⟨b, 0, none⟩), .int .i64 0]) ∧ DiskAt w' b (DM.new n) F ∧ (∀ k, F k → w.heap.size ≤ k) ∧ Below w.heap.size w w' := by
  obtain ⟨i0, hi0, hz0, hz1, hz2⟩ := info_parts sector_info
  have hmk := fun W => run_make_rowN (P := Try.prog) 69 97 i0 _ Try.underlying69 hi0 hz0 .i64 .i64 n n (Nat.le_refl _) (by rw [hz2]; omega) (by omega) W
  simp only [hz1, Value.cells, made_secs] at hmk
  go_enter Try.func9, Try.ntmps9
  go_wp2
  go_region
  all_goals go_wp2
  · go_ret2
    refine ⟨_, _, rfl, ⟨_, _, _, (disk_new w n h1 h2 w.heap.size (w.heap.size + 1) (.inl ⟨rfl, rfl⟩)).drew, rfl⟩, ?_, ?_⟩
    · rintro k (rfl | rfl | rfl | h)
      · omega
      · omega
      · omega
      · cases h
    · exact ((((Below.refl _ _).alloc (Nat.le_refl _) _).alloc (by simp) _).alloc (by simp; omega) _).drew
  · go_ret2
    refine ⟨_, _, rfl, ⟨_, _, _, (disk_new w n h1 h2 (w.heap.size + 1) w.heap.size (.inr ⟨rfl, rfl⟩)).drew, rfl⟩, ?_, ?_⟩
    · rintro k (rfl | rfl | rfl | h)
      · omega
      · omega
      · omega
      · cases h
    · exact ((((Below.refl _ _).alloc (Nat.le_refl _) _).alloc (by simp) _).alloc (by simp; omega) _).drew
end Go.Proofs.Ytmfjhejhbomlpaa
