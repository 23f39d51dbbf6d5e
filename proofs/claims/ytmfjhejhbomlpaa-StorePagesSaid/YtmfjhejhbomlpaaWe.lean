/- Walks of the disk: written. -/
import Derived.Test.YtmfjhejhbomlpaaWd
import Derived.Test.YtmfjhejhbomlpaaReg
set_option linter.unusedVariables false
set_option linter.unusedSimpArgs false
namespace Go.Proofs.Ytmfjhejhbomlpaa
open Go.RowKit

def padS (xs : List UInt8) : List UInt8 := xs ++ List.replicate (64 - xs.length) 0
def DM.putW (D : DM) (k : Nat) (xs : List UInt8) : DM := { D with now := D.now.set k xs, opn := D.opn ++ [(k, xs)] }
theorem padS_length (xs : List UInt8) (h : xs.length ≤ 64) : (padS xs).length = 64 := by simp [padS]; omega
theorem splice_pad (k : Int) (xs : List UInt8) (h : xs.length ≤ 64) : splice (Value.int .i64 k :: bs (List.replicate 64 0)) 1 ((bs xs).take 64) = Value.int .i64 k :: bs (padS xs) := by
  rw [List.take_of_length_le (by rw [bs_length]; exact h)]
  simp only [splice, bs_length, List.take_succ_cons, List.take_zero, padS, bs_append]
  rw [Nat.add_comm 1, List.drop_succ_cons, ← bs_drop, List.drop_replicate]
  simp
theorem write_info : (Try.prog.info? 99).map (fun i => (i.zero, i.size, i.bytes)) = some (some (.agg (.int .i64 0 :: bs (List.replicate 64 0)).toArray), 65, 72) := by kernel_rfl
theorem write_zero : ((Try.prog.info? 99).bind (·.zero)).map (·.cells) = some (.int .i64 0 :: bs (List.replicate 64 0)).toArray := by kernel_rfl
theorem byte_size : (Try.prog.info? 5).map (·.size) = some 1 := by kernel_rfl
theorem write_size : (Try.prog.info? 99).map (·.size) = some 65 := by kernel_rfl

/-- A load of a whole write, under a name that the walk leaves standing. -/
def ldW (x : Value) : Sem Value := Instr.loadAt 99 x
theorem ldW_eq (x : Value) : Instr.loadAt 99 x = ldW x := rfl
theorem run_ldW (w : World) (g o : Nat) (h : hasCells w g o 65 = true) : (ldW (.pointer (some ⟨g, o, none⟩))).run Try.prog w = .ok (.agg (aggOf w g o 65)) w :=
  run_loadAgg 99 _ 65 Try.underlying99 rfl write_size w g o h
def bsW (ps : Array (Nat × Value)) : Sem Value := Instr.buildSlice 70 1 ps
theorem bsW_eq (ps : Array (Nat × Value)) : Instr.buildSlice 70 1 ps = bsW ps := rfl
theorem write_info2 : (Try.prog.info? 99).map (fun i => (i.zero, i.size)) = some (some (.agg (.int .i64 0 :: bs (List.replicate 64 0)).toArray), 65) := by kernel_rfl
theorem run_bsW (w : World) (cs : Array Value) (h : cs.size = 65) : (bsW #[(0, .agg cs)]).run Try.prog w = .ok (.slice (some ⟨w.heap.size, 0, none⟩) 1 1) (w.alloc (.cells cs 99)) :=
  run_buildSlice_one _ _ 65 _ Try.underlying70 write_info2 rfl (by omega) (by omega) w cs h
attribute [local go_sem ↓] ldW_eq bsW_eq
attribute [local go_sem] run_ldW run_bsW

set_option maxRecDepth 100000 in
set_option maxHeartbeats 1000000 in
theorem write_ok {b bf bn : Nat} {ov : Value} {D : DM} (w : World) (h : DiskB w b bf bn ov D) (ho : D.off = false) (hs : D.steps = 0) (k : Nat) (hk : k < D.now.length) (hop : D.opn.length ≤ 1000000) (v : Value) (xs : List UInt8) (hx : RB w v xs) (haw : Away v (dfoot b bf bn ov)) (hx64 : xs.length ≤ 64) :
    Calls Try.prog 70 #[.pointer (some ⟨b, 0, none⟩), .int .i64 k, v] w fun e w' => e = .returned (.int .i64 0) ∧ (∃ ov', DiskB w' b bf bn ov' (D.stepped.putW k (padS xs)) ∧ (ov'.ownBlock = ov.ownBlock ∨ ∀ k, ov'.ownBlock = some k → w.heap.size ≤ k)) ∧ Changed (dfoot b bf bn ov) w w' := by
  obtain ⟨A, c, rfl, hc, hn, hm, hr⟩ := hx
  have c1 := h.head.cell 1
  simp at c1
  have hrd : D.ready = 0 := by simp [DM.ready, ho]
  have HR := Lib.hid hrd
  have HS := Lib.hid hs
  clear hrd ho hs
  have hmx := h.ok.max
  go_enter Try.func70, Try.ntmps70
  go_wp2_with (first
    | (go_at_call 44; refine (ready_calls _ h).mono ?_; rintro e w' ⟨rfl, rfl⟩; rw [HR.out])
    | (go_at_call 87; refine (step_calls _ h).mono ?_; rintro e ws ⟨rfl, hd1, hc1⟩; rw [HS.out])
    | (with_reducible refine wpList_allocZ rfl 99 rfl _ write_zero ?_)
    | (refine wpList_store_fresh rfl 99 (.tmp 9) (.tmp 37) rfl _ (.int .i64 (k : Int) :: bs (List.replicate 64 0)).toArray _ rfl rfl write_size rfl (wr_all _ _) ?_)
    | ((refine wpList_copy_blk rfl (.tmp 39) (.tmp 40) 41 41 rfl 5 Try.underlying41 byte_size _ 64 64 rfl A xs.length c ws.heap.size rfl (bs xs) (((hr.frame (Nat.le_refl _) hc1 (haw.mono fun k hk => .inl hk)).more hc1.size).alloc (Nat.le_refl _) _) (bs_one xs) ws.heap.size 1 (.int .i64 (k : Int) :: bs (List.replicate 64 0)) 99 (heap_alloc_new ws _) (fun _ => rfl) (by simp [bs_length]) ws.heap.size ws ((Below.refl _ _).alloc (Nat.le_refl _) _) (Nat.le_refl _) ?_; intro w2 hk2 hb2 hg2)))
  have d2 := hd1.frame (Changed.of_below (S := fun _ => False) hb2) (fun _ _ h => h)
  rw [splice_pad _ _ hx64] at hk2
  have hp64 := padS_length xs hx64
  have hln : D.stepped.now.length = D.now.length := by rw [DM.stepped_now]
  have hlo : D.stepped.opn.length ≤ 1000000 := by rw [DM.stepped_opn]; exact hop
  have hkk : k < D.stepped.now.length := by rw [hln]; exact hk
  generalize hD1 : D.stepped = D1 at *
  have HD1 := Lib.hid hD1
  clear hD1
  have e1 := d2.head.cell 1
  simp at e1
  rw [hln] at e1
  have hrg : w2.rangeAt ws.heap.size 1 (bs (padS xs)) := hk2.rangeAt _ _ (fun j v hv => by rw [Nat.add_comm]; simpa using hv)
  have hth : w2.there bn (k * 64) 64 := d2.now.there _ _ (by rw [List.size_toArray, secs_length _ d2.ok.now64]; omega)
  have hu := Try.underlying97
  have hi : (Try.prog.info? 97).map (·.size) = some (bs (padS xs)).length := by rw [sector_size, bs_length, hp64]
  have hl : (bs (padS xs)).length = 64 := by rw [bs_length, hp64]
  have h1c := bs_one (padS xs)
  have hneb : b ≠ bn := Ne.symm d2.ne2
  have hneW : ws.heap.size ≠ bn := Ne.symm (Nat.ne_of_lt (hd1.now.lt))
  have hk0 : (0 : Int) ≤ (k : Int) := Int.natCast_nonneg _
  have hkn : (k : Int) < (D.now.length : Int) := by omega
  go_region_held3 (fun w' => w'.cell? ⟨b, 1, none⟩ = some (.slice (some ⟨bn, 0, none⟩) D.now.length D.now.length) ∧ w'.rangeAt ws.heap.size 1 (bs (padS xs)) ∧ w'.there bn (k * 64) 64) (first | go_keep_ranges | exact ⟨(World.cell?_setCells_out _ _ _ _ _ (fun h => absurd h hneb)).trans e1, World.rangeAt_setCells_apart (w := w2.drew) hrg _ _ _ (.inl hneW), World.there_setCells (w := w2.drew) hth _ _ _⟩) (fail)
  go_wp2
  have d3 : DiskB (w2.drew.setCells bn (k * 64) (bs (padS xs))) b bf bn ov { D1 with now := D1.now.set k (padS xs) } := (d2.frame (Changed.drew (Changed.refl (fun _ => False) _)) (fun _ _ h => h)).putNow k hkk _ hp64
  have hk3 : Blk (w2.drew.setCells bn (k * 64) (bs (padS xs))) ws.heap.size 99 (Value.int .i64 (k : Int) :: bs (padS xs)).toArray := Blk.frame (w := w2.drew) hk2 (Changed.setCells (S := (· = bn)) bn rfl _ _ _) hneW
  have hch3 : Changed (· = bn) w2 (w2.drew.setCells bn (k * 64) (bs (padS xs))) := (Changed.drew (Changed.refl _ _)).trans (Changed.setCells (S := (· = bn)) bn rfl _ _ _) (fun _ h => .inl h)
  clear hrg hth hu hi hl h1c e1
  generalize w2.drew.setCells bn (k * 64) (bs (padS xs)) = w3 at *
  have e2 := d3.head.cell 2
  have f2 := d3.head.frozen 2
  simp at e2
  have hrg : w3.rangeAt ws.heap.size 0 (Value.int .i64 (k : Int) :: bs (padS xs)) := hk3.rangeAt _ _ (fun j v hv => by rw [Nat.zero_add]; simpa using hv)
  have hl : (Value.int .i64 (k : Int) :: bs (padS xs)).length = 65 := by rw [List.length_cons, bs_length, hp64]
  have h1c := wr_one (k : Int) (padS xs)
  obtain ⟨ha1, ha2⟩ := aggOf_range hrg
  rw [hl] at ha1 ha2
  have hneb : ws.heap.size ≠ b := Nat.ne_of_gt hd1.head.lt
  have hneo : ov.ownBlock ≠ some ws.heap.size := fun e => absurd (hd1.opn.lt _ e).2 (Nat.lt_irrefl _)
  have hk4 : aggOf (w3.drew.alloc (.cells (Value.int .i64 (k : Int) :: bs (padS xs)).toArray 99)) ws.heap.size 0 65 = (Value.int .i64 (k : Int) :: bs (padS xs)).toArray ∧ hasCells (w3.drew.alloc (.cells (Value.int .i64 (k : Int) :: bs (padS xs)).toArray 99)) ws.heap.size 0 65 = true := by
    have := aggOf_range (World.rangeAt_alloc (w := w3.drew) hrg (.cells (Value.int .i64 (k : Int) :: bs (padS xs)).toArray 99))
    rwa [hl] at this
  refine wp_region_E (S := fun w' => w'.cell? ⟨b, 2, none⟩ = some ov ∧ w'.frozen? ⟨b, 2, none⟩ = false ∧ hasCells w' ws.heap.size 0 65 = true ∧ aggOf w' ws.heap.size 0 65 = (Value.int .i64 (k : Int) :: bs (padS xs)).toArray) (late := [10]) (by kernel_rfl) ⟨e2, f2, ha2, ha1⟩ (fun hHeld => ?_)
  refine wpAnyE_take (i := 0) (v := ?_) rfl (by kernel_rfl) (fun _ _ _ h => h) (Or.inl ⟨by rfl, ?_⟩) (by assumption) ?_
  rotate_left
  · (intro w hSw; (try dsimp only at hSw); go_simp; try with_reducible rfl)
  try simp only [Act.put, List.setIfInBounds_toArray, List.set_cons_zero, List.set_cons_succ]
  refine wpAnyE_take (i := 1) (v := ?_) rfl (by kernel_rfl) (fun _ _ _ h => h) (Or.inl ⟨by rfl, ?_⟩) (by assumption) ?_
  rotate_left
  · (intro w hSw; (try dsimp only at hSw); go_simp; try with_reducible rfl)
  try simp only [Act.put, List.setIfInBounds_toArray, List.set_cons_zero, List.set_cons_succ]
  refine wpAnyE_take (i := 5) (v := ?_) rfl (by kernel_rfl) (fun _ _ _ h => h) (Or.inl ⟨by rfl, ?_⟩) (by assumption) ?_
  rotate_left
  · (intro w hSw; (try dsimp only at hSw); go_simp; try with_reducible rfl)
  try simp only [Act.put, List.setIfInBounds_toArray, List.set_cons_zero, List.set_cons_succ]
  refine wpAnyE_take (i := 2) (v := ?_) rfl (by kernel_rfl) (fun _ _ _ h => h) (Or.inl ⟨by rfl, ?_⟩) (by assumption) ?_
  rotate_left
  · (intro w hSw; (try dsimp only at hSw); go_simp; try with_reducible rfl)
  try simp only [Act.put, List.setIfInBounds_toArray, List.set_cons_zero, List.set_cons_succ]
  refine wpAnyE_take (i := 3) (v := ?_) rfl (by kernel_rfl) (fun _ _ _ h => h) (Or.inl ⟨by rfl, ?_⟩) (by assumption) ?_
  rotate_left
  · (intro w hSw; (try dsimp only at hSw); go_simp; try with_reducible rfl)
  try simp only [Act.put, List.setIfInBounds_toArray, List.set_cons_zero, List.set_cons_succ]
  refine wpAnyE_take (i := 4) (v := ?_) rfl (by kernel_rfl) (fun _ _ _ h => h) (Or.inl ⟨by rfl, ?_⟩) (by assumption) ?_
  rotate_left
  · (intro w hSw; (try dsimp only at hSw); go_simp; try with_reducible rfl)
  try simp only [Act.put, List.setIfInBounds_toArray, List.set_cons_zero, List.set_cons_succ]
  refine wpAnyE_step (i := 6) rfl (by kernel_rfl) (fun K hK => ?_)
  rw [if_pos (by rfl)]
  go_simp
  refine hK _ _ ⟨(World.cell?_alloc_lt _ _ _ d3.head.lt).trans e2, (frozen_alloc_lt w3.drew _ _ d3.head.lt).trans f2, hk4.2, hk4.1⟩ (fun hHeld => ?_)
  clear hK K
  try simp only [Act.put, List.setIfInBounds_toArray, List.set_cons_zero, List.set_cons_succ]
  refine wpAnyE_step (i := 7) rfl (by kernel_rfl) (fun K hK => ?_)
  rw [if_pos (by rfl)]
  (refine wp_appendS (w0 := w3) (W := w3.drew) (.tmp 54) (.tmp 56) 70 99 _ 65 72 rfl Try.underlying70 write_info rfl (by omega) (by omega) ov D1.opn.length (wrs D1.opn) (Value.int .i64 (k : Int) :: bs (padS xs)) rfl rfl h1c hl (show w3.drew.ownsRow _ _ _ _ _ _ from d3.opn) ((Below.refl 0 w3).drew) (Nat.zero_le _) (by omega) ?_; intro v1 w4 hown4 hb4 hg4 hat4; have hk5 : Blk w4 ws.heap.size 99 (Value.int .i64 (k : Int) :: bs (padS xs)).toArray := (hg4.block _ hk3.lt (fun e => hneo e.symm)).trans hk3; have hk6 := aggOf_range (hk5.rangeAt 0 (Value.int .i64 (k : Int) :: bs (padS xs)) (fun j v hv => by rw [Nat.zero_add]; simpa using hv)); rw [hl] at hk6; obtain ⟨g1, cp1, hv1, hgl1, hgl2⟩ := hown4.form (by omega); subst hv1)
  refine hK _ _ ⟨hg4.cell (w := w3.drew) e2 (fun e => d3.ne3 e.symm), (World.frozen?_of_block (hg4.block b d3.head.lt (fun e => d3.ne3 e.symm))).trans f2, hk6.2, hk6.1⟩ (fun hHeld => ?_)
  clear hK K
  try simp only [Act.put, List.setIfInBounds_toArray, List.set_cons_zero, List.set_cons_succ]
  refine wpAnyE_step (i := 8) rfl (by kernel_rfl) (fun K hK => ?_)
  rw [if_pos (by rfl)]
  go_simp
  refine hK _ _ (by assumption) (fun hHeld => ?_)
  clear hK K
  try simp only [Act.put, List.setIfInBounds_toArray, List.set_cons_zero, List.set_cons_succ]
  refine wpAnyE_step (i := 9) rfl (by kernel_rfl) (fun K hK => ?_)
  rw [if_pos (by rfl)]
  go_simp
  refine hK _ _ (by assumption) (fun hHeld => ?_)
  clear hK K
  try simp only [Act.put, List.setIfInBounds_toArray, List.set_cons_zero, List.set_cons_succ]
  refine wpAnyE_late (i := 10) rfl (by kernel_rfl) (by kernel_rfl) (fun K hK => ?_)
  rw [if_pos (by rfl)]
  go_simp
  refine hK _ _ ?_
  clear hK K
  try simp only [Act.put, List.setIfInBounds_toArray, List.set_cons_zero, List.set_cons_succ]
  refine wpAnyE_done (by kernel_rfl) ?_ _
  go_wp2
  go_ret
  have d4 : DiskB w3.drew b bf bn ov { D1 with now := D1.now.set k (padS xs) } := d3.frame (Changed.drew (Changed.refl (fun _ => False) _)) (fun _ _ h => h)
  have hsz : w.heap.size ≤ w3.heap.size := Nat.le_trans hc1.size (Nat.le_trans hb2.size hch3.size)
  have hv4 : ∀ k, (Value.slice (some ⟨g1, 0, none⟩) (D1.opn.length + 1) cp1).ownBlock = some k → ov.ownBlock = some k ∨ w3.heap.size ≤ k := by
    intro k hk
    rcases hat4 with h | h
    · exact .inl (h ▸ hk)
    · refine .inr ?_
      rw [hk] at h
      injection h with h
      subst h
      exact Nat.le_succ_of_le (Nat.le_refl _)
  rw [HD1.out]
  refine ⟨rfl, ⟨_, d4.putOpn (k, padS xs) (by simpa using hkk) hp64 hg4 hown4 ?_, ?_⟩, ?_⟩
  · rcases hat4 with h | h
    · exact .inl h
    · exact .inr (fun k hk => by
        rw [hk] at h
        injection h with h
        subst h
        exact Nat.le_succ_of_le (Nat.le_refl _))
  · rcases hat4 with h | h
    · exact .inl h
    · exact .inr (fun k hk => by
        rcases hv4 k hk with h1 | h1
        · rw [hk] at h
          injection h with h
          subst h
          exact Nat.le_trans hsz (Nat.le_succ_of_le (Nat.le_refl _))
        · omega)
  · have c2 : Changed (dfoot b bf bn ov) w w2 := (hc1.mono (fun k hk => .inl (.inl hk))).trans (Changed.of_below (S := fun _ => False) hb2) (fun _ h => h.elim)
    have c3 := c2.trans hch3 (fun k hk => .inl (.inr (.inr (.inl hk))))
    have c4 := (c3.drew).trans (Changed.grown hg4) (fun k hk => .inl (.inr (.inr (.inr hk.symm))))
    exact c4.trans (Changed.setCell (S := (· = b)) _ ⟨b, 2, none⟩ _ rfl) (fun k hk => .inl (.inl hk))
end Go.Proofs.Ytmfjhejhbomlpaa
