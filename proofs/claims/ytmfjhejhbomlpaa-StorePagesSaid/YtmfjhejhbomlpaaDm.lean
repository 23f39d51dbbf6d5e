/- A disk as plain data, and how it lies in memory. -/
import Derived.Test.YtmfjhejhbomlpaaBase3
set_option linter.unusedVariables false
set_option linter.unusedSimpArgs false
namespace Go.Proofs.Ytmfjhejhbomlpaa
open Go.RowKit

/-- A disk: what is fast, what is now, the writes that are not fast, and its power. -/
structure DM where
  fast : List (List UInt8)
  now : List (List UInt8)
  opn : List (Nat × List UInt8)
  armed : Bool
  left : Nat
  off : Bool

/-- What a disk's numbers are. -/
structure DM.ok (D : DM) : Prop where
  same : D.fast.length = D.now.length
  pos : 1 ≤ D.now.length
  max : D.now.length ≤ 4096
  fast64 : ∀ s ∈ D.fast, s.length = 64
  now64 : ∀ s ∈ D.now, s.length = 64
  at_ : ∀ x ∈ D.opn, x.1 < D.now.length
  opn64 : ∀ x ∈ D.opn, x.2.length = 64
  left63 : D.left ≤ maxLen

def secs (l : List (List UInt8)) : List Value := l.flatMap bs
def wrs (l : List (Nat × List UInt8)) : List Value := l.flatMap fun x => .int .i64 (x.1 : Int) :: bs x.2

/-- Worlds that part in certain blocks alone, and in new ones. -/
structure Changed (S : Nat → Prop) (w w' : World) : Prop where
  os : w'.os = w.os
  tape : w'.tape = w.tape
  output : w'.output = w.output
  size : w.heap.size ≤ w'.heap.size
  block : ∀ k, k < w.heap.size → ¬ S k → w'.heap[k]? = w.heap[k]?

theorem Changed.refl (S : Nat → Prop) (w : World) : Changed S w w := ⟨rfl, rfl, rfl, Nat.le_refl _, fun _ _ _ => rfl⟩
theorem Changed.trans {S T : Nat → Prop} {a b c : World} (h : Changed S a b) (k : Changed T b c) (hT : ∀ k, T k → S k ∨ a.heap.size ≤ k) : Changed S a c :=
  ⟨k.os.trans h.os, k.tape.trans h.tape, k.output.trans h.output, Nat.le_trans h.size k.size, fun i hi hn => by
    rw [k.block i (Nat.lt_of_lt_of_le hi h.size) (fun ht => by rcases hT i ht with h1 | h1; exact hn h1; omega), h.block i hi hn]⟩
theorem Changed.mono {S T : Nat → Prop} {a b : World} (h : Changed S a b) (hT : ∀ k, S k → T k ∨ a.heap.size ≤ k) : Changed T a b :=
  (Changed.refl T a).trans h hT
theorem Changed.of_below {S : Nat → Prop} {w w' : World} (h : Below w.heap.size w w') : Changed S w w' := ⟨h.os, h.tape, h.output, h.size, fun k hk _ => h.block k hk⟩
theorem Changed.below {S : Nat → Prop} {w w' : World} (h : Changed S w w') (hS : ∀ k, S k → w.heap.size ≤ k) : Below w.heap.size w w' :=
  ⟨h.os, h.tape, h.output, h.size, fun k hk => h.block k hk (fun hs => by have := hS k hs; omega)⟩
theorem Changed.setCell {S : Nat → Prop} (w : World) (p : Addr) (u : Value) (h : S p.block) : Changed S w (w.setCell p u) :=
  ⟨rfl, rfl, rfl, by simp [World.setCell], fun k _ hn => Below.heap_setCell _ _ _ _ (fun e => by subst e; exact hn h)⟩
theorem Changed.drewN {S : Nat → Prop} {w w' : World} (h : Changed S w w') (n : Nat) : Changed S w (w'.drewN n) := ⟨h.os, h.tape, h.output, h.size, h.block⟩
theorem Changed.drew {S : Nat → Prop} {w w' : World} (h : Changed S w w') : Changed S w w'.drew := ⟨h.os, h.tape, h.output, h.size, h.block⟩
theorem Changed.grown {w w' : World} {row : Option Nat} (h : w.grownBy w' row) : Changed (fun k => some k = row) w w' := ⟨h.os, h.tape, h.output, h.size, fun k hk hn => h.block k hk hn⟩
theorem Changed.alloc {S : Nat → Prop} (w : World) (o : Obj) : Changed S w (w.alloc o) := ⟨rfl, rfl, rfl, by simp, fun k hk _ => Below.heap_alloc _ _ _ hk⟩

/-- A slice that lies in none of certain blocks. -/
def Away (v : Value) (F : Nat → Prop) : Prop := ∀ k, v.ownBlock = some k → ¬ F k
theorem Reads.frame {S : Nat → Prop} {w w' : World} {B size n : Nat} {A : Option Addr} {xs : List Value} {c : Nat} (h : Reads w B size A n xs) (hB : B ≤ w.heap.size) (hc : Changed S w w') (ha : Away (.slice A n c) S) : Reads w' B size A n xs :=
  ⟨h.1, fun hn => by
    obtain ⟨ad, e, hb, hcell⟩ := h.2 hn
    subst e
    refine ⟨ad, rfl, hb, fun j u hu => ?_⟩
    rw [← hcell j u hu]
    refine World.cell?_of_block ?_
    rw [block_of_add]
    exact hc.block _ (by omega) (ha ad.block rfl)⟩
theorem RB.frame {S : Nat → Prop} {w w' : World} {v : Value} {xs : List UInt8} (h : RB w v xs) (hc : Changed S w w') (ha : Away v S) : RB w' v xs := by
  obtain ⟨A, c, rfl, h1, h2, h3, hr⟩ := h
  exact ⟨A, c, rfl, h1, h2, h3, (hr.frame (Nat.le_refl _) hc ha).more hc.size⟩
theorem Away.mono {v : Value} {F G : Nat → Prop} (h : Away v G) (hF : ∀ k, F k → G k) : Away v F := fun k hk hf => h k hk (hF k hf)

/-- A slice of one-cell elements that can be read. -/
def RL (w : World) (v : Value) (xs : List Value) : Prop := ∃ A c, v = .slice A xs.length c ∧ xs.length ≤ c ∧ xs.length ≤ 140737488351232 ∧ c ≤ maxLen ∧ Reads w w.heap.size 1 A xs.length xs
theorem RL.frame {S : Nat → Prop} {w w' : World} {v : Value} {xs : List Value} (h : RL w v xs) (hc : Changed S w w') (ha : Away v S) : RL w' v xs := by
  obtain ⟨A, c, rfl, h1, h2, h3, hr⟩ := h
  exact ⟨A, c, rfl, h1, h2, h3, (hr.frame (Nat.le_refl _) hc ha).more hc.size⟩
def bools (l : List Bool) : List Value := l.map fun b => .bool b
theorem bools_length (l : List Bool) : (bools l).length = l.length := by simp [bools]
theorem Reads.bool {w : World} {B n k : Nat} {A : Option Addr} {xs : List Bool} (h : Reads w B 1 A n (bools xs)) (hk : k < n) :
    ∃ ad, A = some ad ∧ ∃ hl : k < xs.length, w.cell? (ad.add k) = some (.bool xs[k]) := by
  obtain ⟨ad, u, e, _, hx, hc⟩ := h.at_ hk
  have hl : k < xs.length := by have := h.1; rw [bools_length] at this; omega
  refine ⟨ad, e, hl, ?_⟩
  rw [hc, ← hx]
  simp [bools, hl]

/-- A disk in memory: its own block, the two rows of sectors, the row of writes. -/
structure DiskB (w : World) (b bf bn : Nat) (ov : Value) (D : DM) : Prop where
  head : Blk w b 72 #[.slice (some ⟨bf, 0, none⟩) D.now.length D.now.length, .slice (some ⟨bn, 0, none⟩) D.now.length D.now.length, ov, .bool D.armed, .int .i64 (D.left : Int), .bool D.off]
  fast : Blk w bf 97 (secs D.fast).toArray
  now : Blk w bn 97 (secs D.now).toArray
  opn : w.ownsRow 0 99 65 ov D.opn.length (wrs D.opn)
  ok : D.ok
  ne : bf ≠ bn

def dfoot (b bf bn : Nat) (ov : Value) (k : Nat) : Prop := k = b ∨ k = bf ∨ k = bn ∨ ov.ownBlock = some k

/-- A disk behind a pointer to block b; F: the blocks that are its own. -/
def DiskAt (w : World) (b : Nat) (D : DM) (F : Nat → Prop) : Prop := ∃ bf bn ov, DiskB w b bf bn ov D ∧ F = dfoot b bf bn ov

theorem DiskB.frame {S : Nat → Prop} {w w' : World} {b bf bn : Nat} {ov : Value} {D : DM} (h : DiskB w b bf bn ov D) (hc : Changed S w w') (hn : ∀ k, dfoot b bf bn ov k → ¬ S k) : DiskB w' b bf bn ov D := by
  refine ⟨?_, ?_, ?_, ?_, h.ok, h.ne⟩
  · exact (hc.block b h.head.lt (hn b (.inl rfl))).trans h.head
  · exact (hc.block bf h.fast.lt (hn bf (.inr (.inl rfl)))).trans h.fast
  · exact (hc.block bn h.now.lt (hn bn (.inr (.inr (.inl rfl))))).trans h.now
  · refine ⟨h.opn.1, ?_⟩
    rcases h.opn.2 with h0 | ⟨g, cap, cur, rfl, hg, hh, rest⟩
    · exact .inl h0
    · refine .inr ⟨g, cap, cur, rfl, hg, ?_, rest⟩
      rw [hc.block g (Array.getElem?_eq_some_iff.1 hh).1 (hn g (.inr (.inr (.inr rfl))))]
      exact hh
theorem DiskAt.frame {S F : Nat → Prop} {w w' : World} {b : Nat} {D : DM} (h : DiskAt w b D F) (hc : Changed S w w') (hn : ∀ k, F k → ¬ S k) : DiskAt w' b D F := by
  obtain ⟨bf, bn, ov, hb, rfl⟩ := h
  exact ⟨bf, bn, ov, hb.frame hc hn, rfl⟩
theorem DiskB.lt {w : World} {b bf bn : Nat} {ov : Value} {D : DM} (h : DiskB w b bf bn ov D) : ∀ k, dfoot b bf bn ov k → k < w.heap.size := by
  rintro k (rfl | rfl | rfl | hk)
  · exact h.head.lt
  · exact h.fast.lt
  · exact h.now.lt
  · exact (h.opn.lt k hk).2
theorem DiskAt.lt {F : Nat → Prop} {w : World} {b : Nat} {D : DM} (h : DiskAt w b D F) : ∀ k, F k → k < w.heap.size := by
  obtain ⟨bf, bn, ov, hb, rfl⟩ := h
  exact hb.lt
theorem DiskAt.self {F : Nat → Prop} {w : World} {b : Nat} {D : DM} (h : DiskAt w b D F) : F b := by
  obtain ⟨bf, bn, ov, hb, rfl⟩ := h
  exact .inl rfl
theorem DiskAt.ok {F : Nat → Prop} {w : World} {b : Nat} {D : DM} (h : DiskAt w b D F) : D.ok := by
  obtain ⟨bf, bn, ov, hb, rfl⟩ := h
  exact hb.ok

theorem ownsRow_frame {S : Nat → Prop} {w w' : World} {base size n : Nat} {e : TypeId} {v : Value} {xs : List Value} (h : w.ownsRow base e size v n xs) (hc : Changed S w w') (hn : ∀ k, v.ownBlock = some k → ¬ S k) : w'.ownsRow base e size v n xs := by
  refine ⟨h.1, ?_⟩
  rcases h.2 with h0 | ⟨g, cap, cur, rfl, hg, hh, rest⟩
  · exact .inl h0
  · refine .inr ⟨g, cap, cur, rfl, hg, ?_, rest⟩
    rw [hc.block g (Array.getElem?_eq_some_iff.1 hh).1 (hn g rfl)]
    exact hh
theorem Blk.frame {S : Nat → Prop} {w w' : World} {g : Nat} {t : TypeId} {cs : Array Value} (h : Blk w g t cs) (hc : Changed S w w') (hn : ¬ S g) : Blk w' g t cs := (hc.block g h.lt hn).trans h
theorem DiskB.ne1 {w : World} {b bf bn : Nat} {ov : Value} {D : DM} (h : DiskB w b bf bn ov D) : bf ≠ b := Blk.ne_ h.fast h.head (by decide)
theorem DiskB.ne2 {w : World} {b bf bn : Nat} {ov : Value} {D : DM} (h : DiskB w b bf bn ov D) : bn ≠ b := Blk.ne_ h.now h.head (by decide)
theorem DiskB.ne3 {w : World} {b bf bn : Nat} {ov : Value} {D : DM} (h : DiskB w b bf bn ov D) : ov.ownBlock ≠ some b := own_blk_ne h.opn h.head (by decide)
theorem DiskB.ne4 {w : World} {b bf bn : Nat} {ov : Value} {D : DM} (h : DiskB w b bf bn ov D) : ov.ownBlock ≠ some bf := own_blk_ne h.opn h.fast (by decide)
theorem DiskB.ne5 {w : World} {b bf bn : Nat} {ov : Value} {D : DM} (h : DiskB w b bf bn ov D) : ov.ownBlock ≠ some bn := own_blk_ne h.opn h.now (by decide)
theorem DiskB.drew {w : World} {b bf bn : Nat} {ov : Value} {D : DM} (h : DiskB w b bf bn ov D) : DiskB w.drew b bf bn ov D := h.frame (Changed.drew (Changed.refl (fun _ => False) _)) (fun _ _ h => h)
/-- Only the disk's own block has turned. -/
theorem DiskB.rehead {w w' : World} {b bf bn : Nat} {ov : Value} {D : DM} (h : DiskB w b bf bn ov D) (hc : Changed (· = b) w w') (D' : DM) (e1 : D'.fast = D.fast) (e2 : D'.now = D.now) (e3 : D'.opn = D.opn) (hl : D'.left ≤ maxLen)
    (hh : Blk w' b 72 #[.slice (some ⟨bf, 0, none⟩) D.now.length D.now.length, .slice (some ⟨bn, 0, none⟩) D.now.length D.now.length, ov, .bool D'.armed, .int .i64 (D'.left : Int), .bool D'.off]) : DiskB w' b bf bn ov D' := by
  obtain ⟨f, n, o, ar, l, of⟩ := D'
  simp only at e1 e2 e3 hl hh
  subst e1 e2 e3
  exact ⟨hh, h.fast.frame hc h.ne1, h.now.frame hc h.ne2, ownsRow_frame h.opn hc (fun k hk e => by subst e; exact h.ne3 hk), ⟨h.ok.same, h.ok.pos, h.ok.max, h.ok.fast64, h.ok.now64, h.ok.at_, h.ok.opn64, hl⟩, h.ne⟩

theorem Changed.setCells {S : Nat → Prop} (g : Nat) (hg : S g) : ∀ (vs : List Value) (o : Nat) (w : World), Changed S w (w.setCells g o vs)
  | [], _, w => Changed.refl _ w
  | v :: r, o, w => by
    rw [World.setCells]
    exact (Changed.setCell w ⟨g, o, none⟩ v hg).trans (Changed.setCells g hg r (o + 1) _) (fun _ h => .inl h)
theorem Blk.setCells {g : Nat} {t : TypeId} : ∀ (vs : List Value) (o : Nat) (w : World) (cs : List Value), Blk w g t cs.toArray → o + vs.length ≤ cs.length → Blk (w.setCells g o vs) g t (splice cs o vs).toArray
  | [], o, w, cs, h, _ => by simpa [World.setCells, splice] using h
  | v :: r, o, w, cs, h, hl => by
    rw [World.setCells]
    simp only [List.length_cons] at hl
    have h1 : Blk (w.setCell ⟨g, o, none⟩ v) g t (cs.set o v).toArray := by simpa using h.set_ o v
    have h2 := Blk.setCells r (o + 1) _ _ h1 (by simp; omega)
    have e : splice (cs.set o v) (o + 1) r = splice cs o (v :: r) := by
      have ho : o < cs.length := by omega
      apply List.ext_getElem?
      intro i
      simp only [splice, List.getElem?_append, List.length_take, List.length_set, List.getElem?_take, List.length_cons, List.getElem?_set, List.getElem?_drop, List.getElem?_cons]
      repeat' split
      all_goals first | rfl | omega | (congr 1; omega) | (simp; done) | (exfalso; omega) | skip
      all_goals simp_all
      all_goals omega
    rw [e] at h2
    exact h2
theorem splice_secs (l : List (List UInt8)) (h : ∀ s ∈ l, s.length = 64) (k : Nat) (hk : k < l.length) (xs : List UInt8) (hx : xs.length = 64) : splice (secs l) (k * 64) (bs xs) = secs (l.set k xs) := by
  induction l generalizing k with
  | nil => simp at hk
  | cons s l ih =>
    have hs := h s (by simp)
    cases k with
    | zero =>
      simp only [splice, secs, List.flatMap_cons, Nat.zero_mul, List.take_zero, List.nil_append, Nat.zero_add, bs_length, hx, List.set_cons_zero]
      rw [List.drop_append_of_le_length (by rw [bs_length]; omega), List.drop_of_length_le (by rw [bs_length]; omega), List.nil_append]
    | succ k =>
      have := ih (fun x hx => h x (by simp [hx])) k (by simpa using hk)
      simp only [List.set_cons_succ]
      have e1 : secs (s :: l) = bs s ++ secs l := by simp [secs]
      have e2 : secs (s :: l.set k xs) = bs s ++ secs (l.set k xs) := by simp [secs]
      rw [e1, e2, ← this]
      simp only [splice, bs_length, hx]
      have hl : (bs s).length = 64 := by rw [bs_length]; exact hs
      rw [show (k + 1) * 64 = (bs s).length + k * 64 by omega, List.take_length_add_append, show (bs s).length + k * 64 + 64 = (bs s).length + (k * 64 + 64) by omega, List.drop_length_add_append, List.append_assoc]
theorem secs_length (l : List (List UInt8)) (h : ∀ s ∈ l, s.length = 64) : (secs l).length = l.length * 64 := by
  induction l with
  | nil => rfl
  | cons s l ih =>
    simp only [secs, List.flatMap_cons, List.length_append, bs_length, List.length_cons]
    have := ih (fun x hx => h x (by simp [hx]))
    simp only [secs] at this
    rw [this, h s (by simp)]
    omega
theorem secs_at (l : List (List UInt8)) (h : ∀ s ∈ l, s.length = 64) (k : Nat) (hk : k < l.length) (j : Nat) (hj : j < 64) : (secs l)[k * 64 + j]? = (bs l[k])[j]? := by
  induction l generalizing k with
  | nil => simp at hk
  | cons s l ih =>
    have hs := h s (by simp)
    simp only [secs, List.flatMap_cons]
    cases k with
    | zero =>
      rw [Nat.zero_mul, Nat.zero_add, List.getElem?_append_left (by rw [bs_length]; omega)]
      rfl
    | succ k =>
      rw [List.getElem?_append_right (by rw [bs_length]; omega), bs_length, hs, show (k + 1) * 64 + j - 64 = k * 64 + j by omega]
      exact ih (fun x hx => h x (by simp [hx])) k (by simpa using hk)
theorem Blk.rangeAt {w : World} {g : Nat} {t : TypeId} {cs : Array Value} (h : Blk w g t cs) (o : Nat) (vs : List Value) (hv : ∀ j v, vs[j]? = some v → cs[o + j]? = some v) : w.rangeAt g o vs := fun j v hj => by
  rw [h.cell]
  exact hv j v hj
theorem Blk.there {w : World} {g : Nat} {t : TypeId} {cs : Array Value} (h : Blk w g t cs) (o n : Nat) (hn : o + n ≤ cs.size) : w.there g o n := fun j hj => by
  rw [h.cell, h.frozen]
  exact ⟨by simp; omega, rfl⟩
theorem mem_set_len {l : List (List UInt8)} {k : Nat} {xs : List UInt8} (h : ∀ s ∈ l, s.length = 64) (hx : xs.length = 64) : ∀ s ∈ l.set k xs, s.length = 64 := by
  intro s hs
  rcases List.mem_or_eq_of_mem_set hs with h1 | h1
  · exact h s h1
  · rw [h1]; exact hx
theorem DiskB.putNow {w : World} {b bf bn : Nat} {ov : Value} {D : DM} (h : DiskB w b bf bn ov D) (k : Nat) (hk : k < D.now.length) (xs : List UInt8) (hx : xs.length = 64) :
    DiskB (w.setCells bn (k * 64) (bs xs)) b bf bn ov { D with now := D.now.set k xs } := by
  have hc : Changed (· = bn) w (w.setCells bn (k * 64) (bs xs)) := Changed.setCells (S := (· = bn)) bn rfl _ _ _
  have hh := h.head.frame hc (Ne.symm h.ne2)
  refine ⟨by simpa using hh, h.fast.frame hc h.ne, ?_, ownsRow_frame h.opn hc (fun k hk e => by subst e; exact h.ne5 hk), ⟨by simpa using h.ok.same, by simpa using h.ok.pos, by simpa using h.ok.max, h.ok.fast64, mem_set_len h.ok.now64 hx, by simpa using h.ok.at_, h.ok.opn64, h.ok.left63⟩, h.ne⟩
  rw [← splice_secs _ h.ok.now64 k hk xs hx]
  refine Blk.setCells _ _ _ _ h.now ?_
  rw [secs_length _ h.ok.now64, bs_length, hx]
  omega
theorem DiskB.putFast {w : World} {b bf bn : Nat} {ov : Value} {D : DM} (h : DiskB w b bf bn ov D) (k : Nat) (hk : k < D.fast.length) (xs : List UInt8) (hx : xs.length = 64) :
    DiskB (w.setCells bf (k * 64) (bs xs)) b bf bn ov { D with fast := D.fast.set k xs } := by
  have hc : Changed (· = bf) w (w.setCells bf (k * 64) (bs xs)) := Changed.setCells (S := (· = bf)) bf rfl _ _ _
  have hh := h.head.frame hc (Ne.symm h.ne1)
  refine ⟨hh, ?_, h.now.frame hc (Ne.symm h.ne), ownsRow_frame h.opn hc (fun k hk e => by subst e; exact h.ne4 hk), ⟨by simpa using h.ok.same, h.ok.pos, h.ok.max, mem_set_len h.ok.fast64 hx, h.ok.now64, h.ok.at_, h.ok.opn64, h.ok.left63⟩, h.ne⟩
  rw [← splice_secs _ h.ok.fast64 k hk xs hx]
  refine Blk.setCells _ _ _ _ h.fast ?_
  rw [secs_length _ h.ok.fast64, bs_length, hx]
  omega

/-- The row of writes has grown, and the disk's own block says so. -/
theorem DiskB.putOpn {w w1 : World} {b bf bn : Nat} {ov v1 : Value} {D : DM} (h : DiskB w b bf bn ov D) (x : Nat × List UInt8) (hx : x.1 < D.now.length) (hx2 : x.2.length = 64)
    (hg : w.grownBy w1 ov.ownBlock) (hown : w1.ownsRow 0 99 65 v1 (D.opn.length + 1) (wrs D.opn ++ (Value.int .i64 (x.1 : Int) :: bs x.2))) (hv : v1.ownBlock = ov.ownBlock ∨ ∀ k, v1.ownBlock = some k → w.heap.size ≤ k) :
    DiskB (w1.setCell ⟨b, 2, none⟩ v1) b bf bn v1 { D with opn := D.opn ++ [x] } := by
  have hc : Changed (fun k => some k = ov.ownBlock) w w1 := Changed.grown hg
  have n1 : ∀ {k : Nat}, ov.ownBlock ≠ some k → ¬ (some k = ov.ownBlock) := fun h e => h e.symm
  have hh := h.head.frame hc (n1 h.ne3)
  have hb : v1.ownBlock ≠ some b := by
    rcases hv with e | e
    · rw [e]; exact h.ne3
    · intro hk; have := e b hk; have := h.head.lt; omega
  have hc2 : Changed (· = b) w1 (w1.setCell ⟨b, 2, none⟩ v1) := Changed.setCell (S := (· = b)) w1 ⟨b, 2, none⟩ v1 rfl
  refine ⟨by simpa using hh.set_ 2 v1, (h.fast.frame hc (n1 h.ne4)).frame hc2 h.ne1, (h.now.frame hc (n1 h.ne5)).frame hc2 h.ne2, ?_, ⟨h.ok.same, h.ok.pos, h.ok.max, h.ok.fast64, h.ok.now64, ?_, ?_, h.ok.left63⟩, h.ne⟩
  · have e : wrs (D.opn ++ [x]) = wrs D.opn ++ (Value.int .i64 (x.1 : Int) :: bs x.2) := by simp [wrs]
    simp only [List.length_append, List.length_cons, List.length_nil, Nat.zero_add]
    rw [e]
    exact ownsRow_frame hown hc2 (fun k hk e => by subst e; exact hb hk)
  · intro y hy
    rcases List.mem_append.1 hy with h1 | h1
    · exact h.ok.at_ y h1
    · rw [List.mem_singleton.1 h1]; exact hx
  · intro y hy
    rcases List.mem_append.1 hy with h1 | h1
    · exact h.ok.opn64 y h1
    · rw [List.mem_singleton.1 h1]; exact hx2

theorem ownsRow_slice {w : World} {base size n : Nat} {e : TypeId} {v : Value} {xs : List Value} (h : w.ownsRow base e size v n xs) : ∃ A c, v = .slice A n c ∧ (0 < n → ∃ g, A = some ⟨g, 0, none⟩ ∧ g < w.heap.size) ∧ n ≤ c := by
  rcases h.2 with ⟨rfl, rfl⟩ | ⟨g, cap, cur, rfl, _, hh, hc, _⟩
  · exact ⟨none, 0, rfl, fun h => absurd h (by omega), by omega⟩
  · exact ⟨_, cap, rfl, fun _ => ⟨g, rfl, (Array.getElem?_eq_some_iff.1 hh).1⟩, hc⟩
theorem wrs_at (l : List (Nat × List UInt8)) (h : ∀ x ∈ l, x.2.length = 64) (k : Nat) (hk : k < l.length) (j : Nat) (hj : j < 65) : (wrs l)[k * 65 + j]? = (Value.int .i64 (l[k].1 : Int) :: bs l[k].2)[j]? := by
  induction l generalizing k with
  | nil => simp at hk
  | cons s l ih =>
    have hs := h s (by simp)
    have hl : (Value.int .i64 (s.1 : Int) :: bs s.2).length = 65 := by rw [List.length_cons, bs_length, hs]
    have e : wrs (s :: l) = (Value.int .i64 (s.1 : Int) :: bs s.2) ++ wrs l := by simp [wrs]
    rw [e]
    cases k with
    | zero =>
      rw [Nat.zero_mul, Nat.zero_add, List.getElem?_append_left (by omega)]
      rfl
    | succ k =>
      rw [List.getElem?_append_right (by omega), hl, show (k + 1) * 65 + j - 65 = k * 65 + j by omega]
      exact ih (fun x hx => h x (by simp [hx])) k (by simpa using hk)
theorem opn_range {w : World} {b bf bn g n c : Nat} {D : DM} (h : DiskB w b bf bn (.slice (some ⟨g, 0, none⟩) n c) D) (k : Nat) (hk : k < D.opn.length) : w.rangeAt g (k * 65) (Value.int .i64 (D.opn[k].1 : Int) :: bs D.opn[k].2) := by
  intro j v hj
  have h64 := h.ok.opn64 _ (List.getElem_mem hk)
  have hj65 : j < 65 := by
    have := (List.getElem?_eq_some_iff.1 hj).1
    rw [List.length_cons, bs_length, h64] at this
    exact this
  have := h.opn.cells (g := g) rfl (k * 65 + j) v (by rw [wrs_at _ h.ok.opn64 k hk j hj65]; exact hj)
  have ha : (⟨g, 0, none⟩ : Addr).add (k * 65 + j) = ⟨g, k * 65 + j, none⟩ := by unfold Addr.add; split <;> simp_all
  rwa [ha] at this

/-- What a sync makes fast: of the sectors that were written what is now. -/
def synced (now : List (List UInt8)) : List (Nat × List UInt8) → List (List UInt8) → List (List UInt8)
  | [], fast => fast
  | x :: r, fast => synced now r (fast.set x.1 (now.getD x.1 []))
def DM.sync (D : DM) : DM := { D with fast := synced D.now D.opn D.fast, opn := [] }
theorem synced_length (now : List (List UInt8)) : ∀ (l : List (Nat × List UInt8)) (fast : List (List UInt8)), (synced now l fast).length = fast.length
  | [], _ => rfl
  | x :: r, fast => by rw [synced, synced_length now r]; simp
theorem synced_snoc (now : List (List UInt8)) (x : Nat × List UInt8) : ∀ (l : List (Nat × List UInt8)) (fast : List (List UInt8)), synced now (l ++ [x]) fast = (synced now l fast).set x.1 (now.getD x.1 [])
  | [], _ => rfl
  | y :: r, fast => by
    rw [List.cons_append, synced, synced_snoc now x r, synced]
/-- What a crash keeps of the writes that are not fast. -/
def kept (opn : List (Nat × List UInt8)) (keep : List Bool) (fast : List (List UInt8)) : Nat → List (List UInt8)
  | 0 => fast
  | k + 1 => if keep.getD k false then (kept opn keep fast k).set (opn.getD k (0, [])).1 (opn.getD k (0, [])).2 else kept opn keep fast k
theorem kept_length (opn : List (Nat × List UInt8)) (keep : List Bool) (fast : List (List UInt8)) : ∀ k, (kept opn keep fast k).length = fast.length
  | 0 => rfl
  | k + 1 => by
    rw [kept]
    split
    · rw [List.length_set, kept_length opn keep fast k]
    · exact kept_length opn keep fast k
def DM.crash (D : DM) (keep : List Bool) : DM := ⟨kept D.opn keep D.fast D.opn.length, synced (kept D.opn keep D.fast D.opn.length) D.opn D.now, [], false, 0, false⟩
/-- The row of writes is given up. -/
theorem DiskB.clear {w : World} {b bf bn : Nat} {ov : Value} {D : DM} (h : DiskB w b bf bn ov D) : DiskB (w.setCell ⟨b, 2, none⟩ (.slice none 0 0)) b bf bn (.slice none 0 0) { D with opn := [] } := by
  have hc : Changed (· = b) w (w.setCell ⟨b, 2, none⟩ (.slice none 0 0)) := Changed.setCell (S := (· = b)) w ⟨b, 2, none⟩ _ rfl
  exact ⟨by simpa using h.head.set_ 2 (.slice none 0 0), h.fast.frame hc h.ne1, h.now.frame hc h.ne2, ⟨by simp [wrs], .inl ⟨rfl, rfl⟩⟩, ⟨h.ok.same, h.ok.pos, h.ok.max, h.ok.fast64, h.ok.now64, by simp, by simp, h.ok.left63⟩, h.ne⟩

/-- What a step does. -/
def DM.ready (D : DM) : Nat := if D.off then 14 else 0
def DM.stepped (D : DM) : DM := if D.armed && D.left == 0 then { D with off := true } else if D.armed then { D with left := D.left - 1 } else D
theorem DM.stepped_now (D : DM) : D.stepped.now = D.now := by
  unfold DM.stepped
  split
  · rfl
  · split <;> rfl
theorem DM.stepped_fast (D : DM) : D.stepped.fast = D.fast := by
  unfold DM.stepped
  split
  · rfl
  · split <;> rfl
theorem DM.stepped_opn (D : DM) : D.stepped.opn = D.opn := by
  unfold DM.stepped
  split
  · rfl
  · split <;> rfl
theorem DM.stepped_eq (D : DM) : D.stepped = ⟨D.fast, D.now, D.opn, D.stepped.armed, D.stepped.left, D.stepped.off⟩ := by
  unfold DM.stepped
  split
  · rfl
  · split <;> rfl
def DM.steps (D : DM) : Nat := if D.armed && D.left == 0 then 14 else 0
theorem DiskB.range_now {w : World} {b bf bn : Nat} {ov : Value} {D : DM} (h : DiskB w b bf bn ov D) (k : Nat) (hk : k < D.now.length) : w.rangeAt bn (k * 64) (bs D.now[k]) :=
  h.now.rangeAt _ _ fun j v hv => by
    have hl := h.ok.now64 _ (List.getElem_mem hk)
    have hj : j < 64 := by
      have := (List.getElem?_eq_some_iff.1 hv).1
      rw [bs_length, hl] at this
      exact this
    rw [List.getElem?_toArray, secs_at _ h.ok.now64 k hk j hj]
    exact hv
theorem DiskB.range_fast {w : World} {b bf bn : Nat} {ov : Value} {D : DM} (h : DiskB w b bf bn ov D) (k : Nat) (hk : k < D.fast.length) : w.rangeAt bf (k * 64) (bs D.fast[k]) :=
  h.fast.rangeAt _ _ fun j v hv => by
    have hl := h.ok.fast64 _ (List.getElem_mem hk)
    have hj : j < 64 := by
      have := (List.getElem?_eq_some_iff.1 hv).1
      rw [bs_length, hl] at this
      exact this
    rw [List.getElem?_toArray, secs_at _ h.ok.fast64 k hk j hj]
    exact hv
theorem DiskB.there_now {w : World} {b bf bn : Nat} {ov : Value} {D : DM} (h : DiskB w b bf bn ov D) (k : Nat) (hk : k < D.now.length) : w.there bn (k * 64) 64 := h.now.there _ _ (by rw [List.size_toArray, secs_length _ h.ok.now64]; omega)
theorem DiskB.there_fast {w : World} {b bf bn : Nat} {ov : Value} {D : DM} (h : DiskB w b bf bn ov D) (k : Nat) (hk : k < D.fast.length) : w.there bf (k * 64) 64 := h.fast.there _ _ (by rw [List.size_toArray, secs_length _ h.ok.fast64]; omega)
end Go.Proofs.Ytmfjhejhbomlpaa
