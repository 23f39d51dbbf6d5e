/- The log in memory; the walk that opens one. -/
import Derived.Test.YtmfjhejhbomlpaaDi
import Derived.Test.YtmfjhejhbomlpaaReg
set_option linter.unusedVariables false
set_option linter.unusedSimpArgs false
namespace Go.Proofs.Ytmfjhejhbomlpaa
open Go.RowKit

theorem quiet_left {P : Program} {f : FuncId} {args : Array Value} {w : World} {n : Nat} {v : Value}
    (h : Calls P f args (w.drewN n) fun e w' => e = .returned v ∧ w.drewN n = w') : Calls P f args (w.drewN n) fun e w'' => e = .returned v ∧ ∃ m, w'' = w.drewN m :=
  h.mono fun _ _ ⟨he, hm⟩ => ⟨he, n, hm.symm⟩

/-- Block k is a row of elements of type t. -/
def Ty (w : World) (t : TypeId) (k : Nat) : Prop := ∃ cs fr, w.heap[k]? = some (.cells cs t fr)
theorem Ty.uniq {w : World} {t u : TypeId} {k : Nat} (h : Ty w t k) (h' : Ty w u k) : t = u := by
  obtain ⟨cs, fr, h⟩ := h
  obtain ⟨cs', fr', h'⟩ := h'
  rw [h] at h'
  injection h' with h'
  injection h' with _ h'
theorem Blk.ty {w : World} {g : Nat} {t : TypeId} {cs : Array Value} (h : Blk w g t cs) : Ty w t g := ⟨cs, (0, 0), h⟩
theorem ownsRow_ty {w : World} {base size n : Nat} {e : TypeId} {v : Value} {xs : List Value} (h : w.ownsRow base e size v n xs) : ∀ k, v.ownBlock = some k → Ty w e k := by
  intro k hk
  rcases h.2 with ⟨rfl, _⟩ | ⟨g, cap, cur, rfl, _, hh, _⟩
  · cases hk
  · have : g = k := by simpa [Value.ownBlock] using hk
    subst this
    exact ⟨cur, _, hh⟩
def NoTy (w : World) (S : Nat → Prop) (t : TypeId) : Prop := ∀ k, S k → ¬ Ty w t k
theorem NoTy.of {w : World} {t u : TypeId} {S : Nat → Prop} (h : ∀ k, S k → Ty w u k) (hne : u ≠ t) : NoTy w S t := fun k hk ht => hne ((h k hk).uniq ht)
theorem Own.changed {w w' : World} {S : Nat → Prop} {B : Nat} {e : TypeId} {v : Value} {xs : List Value} (h : Own w B e v xs) (hc : Changed S w w') (hn : NoTy w S e) : Own w' B e v xs :=
  ownsRow_frame h hc (fun k hk hs => hn k hs (ownsRow_ty h k hk))
theorem OwnB.changed {w w' : World} {S : Nat → Prop} {B : Nat} {e : TypeId} {v : Value} {xs : List UInt8} (h : OwnB w B e v xs) (hc : Changed S w w') (hn : NoTy w S e) : OwnB w' B e v xs := Own.changed h hc hn
theorem Blk.changed {w w' : World} {S : Nat → Prop} {g : Nat} {t : TypeId} {cs : Array Value} (h : Blk w g t cs) (hc : Changed S w w') (hn : NoTy w S t) : Blk w' g t cs := h.frame hc (fun hs => hn g hs h.ty)
theorem DiskAt.ty {w : World} {b : Nat} {D : DM} {F : Nat → Prop} (h : DiskAt w b D F) : ∀ k, F k → Ty w 72 k ∨ Ty w 97 k ∨ Ty w 99 k := by
  obtain ⟨bf, bn, ov, hb, rfl⟩ := h
  rintro k (rfl | rfl | rfl | hk)
  · exact .inl hb.head.ty
  · exact .inr (.inl hb.fast.ty)
  · exact .inr (.inl hb.now.ty)
  · exact .inr (.inr (ownsRow_ty hb.opn k hk))
theorem DiskAt.noTy {w : World} {b : Nat} {D : DM} {F : Nat → Prop} (h : DiskAt w b D F) (t : TypeId) (h1 : 72 ≠ t) (h2 : 97 ≠ t) (h3 : 99 ≠ t) : NoTy w F t := fun k hk ht => by
  rcases h.ty k hk with h | h | h
  · exact h1 (h.uniq ht)
  · exact h2 (h.uniq ht)
  · exact h3 (h.uniq ht)

theorem DiskAt.drewN {w : World} {b : Nat} {D : DM} {F : Nat → Prop} (h : DiskAt w b D F) (n : Nat) : DiskAt (w.drewN n) b D F := h.frame ((Changed.refl (fun _ => False) _).drewN n) (fun _ _ h => h)
theorem NoTy.one {w : World} {t u : TypeId} {g : Nat} (h : Ty w u g) (hne : u ≠ t) : NoTy w (· = g) t := fun k hk ht => by subst hk; exact hne (h.uniq ht)
theorem Sub.low {w w0 : World} {F G : Nat → Prop} (h : Sub w F G) (hs : w0.heap.size ≤ w.heap.size) : Sub w0 F G := fun k hk => by
  rcases h k hk with h | h
  · exact .inl h
  · exact .inr (by omega)
/-- Texts behind slices. -/
def Els (w : World) (B : Nat) (vs : List Value) (T : List (List UInt8)) : Prop := vs.length = T.length ∧ ∀ (i : Nat) (v : Value) (t : List UInt8), vs[i]? = some v → T[i]? = some t → OwnB w B 5 v t
theorem Els.nil (w : World) (B : Nat) : Els w B [] [] := ⟨rfl, fun i v t h => by simp at h⟩
theorem Els.snoc {w : World} {B : Nat} {vs : List Value} {T : List (List UInt8)} (h : Els w B vs T) {v : Value} {t : List UInt8} (hv : OwnB w B 5 v t) : Els w B (vs ++ [v]) (T ++ [t]) := by
  refine ⟨by simp [h.1], fun i a b ha hb => ?_⟩
  rcases Nat.lt_or_ge i vs.length with hi | hi
  · rw [List.getElem?_append_left hi] at ha
    rw [List.getElem?_append_left (by rw [← h.1]; exact hi)] at hb
    exact h.2 i a b ha hb
  · have : i = vs.length := by
      have := (List.getElem?_eq_some_iff.1 ha).1
      simp at this
      omega
    subst this
    have e1 : a = v := by simpa using ha.symm
    have e2 : b = t := by
      rw [h.1] at hb
      simpa using hb.symm
    subst e1 e2
    exact hv
theorem Els.changed {w w' : World} {S : Nat → Prop} {B : Nat} {vs : List Value} {T : List (List UInt8)} (h : Els w B vs T) (hc : Changed S w w') (hn : NoTy w S 5) : Els w' B vs T :=
  ⟨h.1, fun i v t hv ht => (h.2 i v t hv ht).changed hc hn⟩
theorem Els.low {w : World} {B B' : Nat} {vs : List Value} {T : List (List UInt8)} (h : Els w B vs T) (hb : B' ≤ B) : Els w B' vs T := ⟨h.1, fun i v t hv ht => Own.low (h.2 i v t hv ht) hb⟩

/-- A log behind a pointer to block bl. -/
structure LogB (w : World) (B bl bd : Nat) (lv : Value) (vs : List Value) (next : Nat) (dead : Bool) (T : List (List UInt8)) : Prop where
  head : Blk w bl 102 #[.pointer (some ⟨bd, 0, none⟩), lv, .int .i64 (next : Int), .bool dead]
  row : Own w B 41 lv vs
  els : Els w B vs T
theorem LogB.changed {w w' : World} {S : Nat → Prop} {B bl bd next : Nat} {lv : Value} {vs : List Value} {dead : Bool} {T : List (List UInt8)} (h : LogB w B bl bd lv vs next dead T) (hc : Changed S w w') (h1 : NoTy w S 102) (h2 : NoTy w S 41) (h3 : NoTy w S 5) : LogB w' B bl bd lv vs next dead T :=
  ⟨h.head.changed hc h1, h.row.changed hc h2, h.els.changed hc h3⟩
theorem LogB.low {w : World} {B B' bl bd next : Nat} {lv : Value} {vs : List Value} {dead : Bool} {T : List (List UInt8)} (h : LogB w B bl bd lv vs next dead T) (hb : B' ≤ B) : LogB w B' bl bd lv vs next dead T := ⟨h.head, h.row.low hb, h.els.low hb⟩
theorem NoTy.none (w : World) (t : TypeId) : NoTy w (fun _ => False) t := fun _ h => h.elim
theorem LogB.below {w w' : World} {B bl bd next : Nat} {lv : Value} {vs : List Value} {dead : Bool} {T : List (List UInt8)} (h : LogB w B bl bd lv vs next dead T) (hb : Below w.heap.size w w') : LogB w' B bl bd lv vs next dead T :=
  h.changed (Changed.of_below (S := fun _ => False) hb) (NoTy.none _ _) (NoTy.none _ _) (NoTy.none _ _)
/-- A text appended, the next place turned. -/
theorem LogB.push {w w5 : World} {B bl bd next : Nat} {lv v v5 : Value} {vs : List Value} {dead : Bool} {T : List (List UInt8)} {t : List UInt8} (h : LogB w B bl bd lv vs next dead T) (hv : OwnB w B 5 v t)
    (hg : w.grownBy w5 lv.ownBlock) (h5 : Own w5 B 41 v5 (vs ++ [v])) (n : Nat) :
    LogB ((w5.setCell ⟨bl, 1, none⟩ v5).drew.setCell ⟨bl, 2, none⟩ (.int .i64 (n : Int))) B bl bd v5 (vs ++ [v]) n dead (T ++ [t]) ∧
      Changed (fun k => k = bl ∨ some k = lv.ownBlock) w ((w5.setCell ⟨bl, 1, none⟩ v5).drew.setCell ⟨bl, 2, none⟩ (.int .i64 (n : Int))) := by
  have hc5 : Changed (fun k => some k = lv.ownBlock) w w5 := Changed.grown hg
  have hn5 : NoTy w (fun k => some k = lv.ownBlock) 5 := fun k hk ht => absurd ((ownsRow_ty h.row k hk.symm).uniq ht) (by decide)
  have hh5 : Blk w5 bl 102 #[.pointer (some ⟨bd, 0, none⟩), lv, .int .i64 (next : Int), .bool dead] := h.head.grown hg (fun e => own_blk_ne h.row h.head (by decide) e.symm)
  have hh6 : Blk (w5.setCell ⟨bl, 1, none⟩ v5) bl 102 #[.pointer (some ⟨bd, 0, none⟩), v5, .int .i64 (next : Int), .bool dead] := by simpa using hh5.set_ 1 v5
  have hh7 : Blk ((w5.setCell ⟨bl, 1, none⟩ v5).drew.setCell ⟨bl, 2, none⟩ (.int .i64 (n : Int))) bl 102 #[.pointer (some ⟨bd, 0, none⟩), v5, .int .i64 (n : Int), .bool dead] := by simpa using hh6.drew.set_ 2 (.int .i64 (n : Int))
  have hc7 : Changed (· = bl) w5 ((w5.setCell ⟨bl, 1, none⟩ v5).drew.setCell ⟨bl, 2, none⟩ (.int .i64 (n : Int))) :=
    (Changed.setCell (S := (· = bl)) w5 ⟨bl, 1, none⟩ v5 rfl).drew.trans (Changed.setCell (S := (· = bl)) _ ⟨bl, 2, none⟩ _ rfl) (fun _ h => .inl h)
  refine ⟨⟨hh7, h5.changed hc7 (NoTy.one hh5.ty (by decide)), ?_⟩, ?_⟩
  · exact (((h.els.snoc hv).changed hc5 hn5)).changed hc7 (NoTy.one hh5.ty (by decide))
  · exact (hc5.mono (fun k hk => .inl (.inr hk))).trans hc7 (fun k hk => .inl (.inl hk))

section
variable {w : World} {B bl bd next : Nat} {lv : Value} {vs : List Value} {dead : Bool} {T : List (List UInt8)}
theorem LogB.c0 (h : LogB w B bl bd lv vs next dead T) : w.cell? ⟨bl, 0, none⟩ = some (.pointer (some ⟨bd, 0, none⟩)) := (h.head.cell 0).trans rfl
theorem LogB.c1 (h : LogB w B bl bd lv vs next dead T) : w.cell? ⟨bl, 1, none⟩ = some lv := (h.head.cell 1).trans rfl
theorem LogB.c2 (h : LogB w B bl bd lv vs next dead T) : w.cell? ⟨bl, 2, none⟩ = some (.int .i64 (next : Int)) := (h.head.cell 2).trans rfl
theorem LogB.c3 (h : LogB w B bl bd lv vs next dead T) : w.cell? ⟨bl, 3, none⟩ = some (.bool dead) := (h.head.cell 3).trans rfl
end
def lenCell : Option Value → Nat
  | some (.slice _ n _) => n
  | _ => 0
theorem row_info : (Try.prog.info? 41).map (fun i => (i.zero, i.size, i.bytes)) = some (some (.slice none 0 0), 1, 24) := by kernel_rfl

theorem open_nil (w : World) : Calls Try.prog 29 #[.pointer none] w fun e w' => e = .returned (.tuple #[.pointer none, .int .i64 1]) ∧ w = w' := by
  go_enter Try.func29, Try.ntmps29
  go_wp2_with (go_at_call 48; refine (sectors_nil _).mono ?_; rintro e w' ⟨rfl, rfl⟩)
  go_ret2
  exact ⟨rfl, rfl⟩

theorem open_off {b : Nat} {D : DM} {F : Nat → Prop} (w : World) (h : DiskAt w b D F) (ho : D.off = true) :
    Calls Try.prog 29 #[.pointer (some ⟨b, 0, none⟩)] w fun e w' => e = .returned (.tuple #[.pointer none, .int .i64 14]) ∧ w = w' := by
  have hp := h.ok.pos
  have h0 : ((D.now.length : Int) == 0) = false := by rw [beq_eq_false_iff_ne]; omega
  have HO := Lib.hid ho
  clear ho
  go_enter Try.func29, Try.ntmps29
  go_wp2_with (first
    | (go_at_call 48; refine (sectors_at _ h).mono ?_; rintro e w' ⟨rfl, rfl⟩)
    | (go_at_call 49; refine (readAll_off _ h HO.out).mono ?_; rintro e w' ⟨rfl, rfl⟩))
  go_ret2
  exact ⟨rfl, rfl⟩

set_option maxRecDepth 100000 in
set_option maxHeartbeats 4000000 in
theorem open_calls {b : Nat} {D : DM} {F : Nat → Prop} (w : World) (h : DiskAt w b D F) (ho : D.off = false) (hop : D.opn.length ≤ 900000) (T tail : List (List UInt8)) (hT : ∀ t ∈ T, t.length ≤ 16384) (hnow : D.now = img 1 T ++ tail) (htail : ∀ s, tail.head? = some s → zeroB s = true) :
    Calls Try.prog 29 #[.pointer (some ⟨b, 0, none⟩)] w fun e w' =>
      ∃ v, e = .returned (.tuple #[v, .int .i64 ((wipeG D.now (nxt T) (D.now.length - nxt T) D false).2 : Int)]) ∧ (∃ F', DiskAt w' b (wipeG D.now (nxt T) (D.now.length - nxt T) D false).1 F' ∧ Sub w F F' ∧ Changed F w w') ∧
        if (wipeG D.now (nxt T) (D.now.length - nxt T) D false).2 = 0 then ∃ bl, v = .pointer (some ⟨bl, 0, none⟩) ∧ w.heap.size ≤ bl ∧ ∃ lv vs, LogB w' w.heap.size bl b lv vs (nxt T) false T else v = .pointer none := by
  have hp := h.ok.pos
  have hmx := h.ok.max
  have h64 := h.ok.now64
  have hnl : nxt T ≤ D.now.length := by rw [hnow, List.length_append, img_length]; omega
  have h0 : ((D.now.length : Int) == 0) = false := by rw [beq_eq_false_iff_ne]; omega
  obtain ⟨Y, hY⟩ : ∃ Y, wipeG D.now (nxt T) (D.now.length - nxt T) D false = Y := ⟨_, rfl⟩
  rw [hY]
  have HY := Lib.hid hY
  have HO := Lib.hid ho
  have HOP := Lib.hid hop
  have HT := Lib.hid hT
  have HNOW := Lib.hid hnow
  have HTL := Lib.hid htail
  have H64 := Lib.hid h64
  clear ho hop hT hnow htail h64 hY
  go_enter Try.func29, Try.ntmps29
  go_wp2_with (first
    | (go_at_call 48; refine (sectors_at _ h).mono ?_; rintro e w' ⟨rfl, rfl⟩)
    | (go_at_call 49; refine (readAll_calls _ h HO.out).mono ?_; rintro e w1 ⟨va, rfl, howna, hb1⟩))
  obtain ⟨bl, hbl⟩ : ∃ bl, w1.heap.size = bl := ⟨_, rfl⟩
  have hd1 : DiskAt w1 b D F := h.frame (Changed.of_below (S := fun _ => False) hb1) (fun _ _ h => h)
  have hF : ∀ k, F k → k < w.heap.size := h.lt
  have hwb : w.heap.size ≤ bl := by rw [← hbl]; exact hb1.size
  have hlog0 : LogB (w1.alloc (.cells #[.pointer (some ⟨b, 0, none⟩), .slice none 0 0, .int .i64 0, .bool false] 102)) w.heap.size bl b (.slice none 0 0) [] 0 false [] := ⟨by rw [← hbl]; exact Blk.new _ _ _, Own.nil _ _ _, Els.nil _ _⟩
  have howna0 := Own.alloc' howna (.cells #[.pointer (some ⟨b, 0, none⟩), .slice none 0 0, .int .i64 0, .bool false] 102)
  have hbel0 := hb1.alloc hb1.size (.cells #[.pointer (some ⟨b, 0, none⟩), .slice none 0 0, .int .i64 0, .bool false] 102)
  rw [hbl]
  generalize w1.alloc (.cells #[.pointer (some ⟨b, 0, none⟩), .slice none 0 0, .int .i64 0, .bool false] 102) = w2 at *
  clear hb1 howna hd1 hbl
  go_loopw [7] (fun _ wr => ∃ (m : Nat) (lv : Value) (vs : List Value), m ≤ T.length ∧ LogB wr w.heap.size bl b lv vs (nxt (T.take m)) false (T.take m) ∧ OwnB wr w.heap.size 5 va (flat D.now) ∧ Below w.heap.size w wr) (fun _ wr => T.length - lenCell (wr.cell? ⟨bl, 1, none⟩))
  case atStart => exact ⟨0, _, [], Nat.zero_le _, hlog0, howna0, hbel0⟩
  case round =>
    obtain ⟨m, lv, vs, hm, hlog, hown, hb⟩ := hrel
    clear hlog0 howna0 hbel0
    have hd : DiskAt wr b D F := h.frame (Changed.of_below (S := fun _ => False) hb) (fun _ _ h => h)
    have hflen : (flat D.now).length = D.now.length * 64 := flat_length _ H64.out
    have hrb := OwnB.rb hown (by rw [hflen]; omega)
    obtain ⟨A, c, hva, hcn, _, hcm, hrd⟩ := hrb
    rw [hflen] at hva hcn hrd
    unfold maxLen at hcm
    have hNle : nxt (T.take m) ≤ D.now.length := by have := nxt_take_le T m; omega
    have c1 := hlog.c1
    have c2 := hlog.c2
    by_cases hmT : m < T.length
    · obtain ⟨hNlt, hNz⟩ := img_first T tail m hmT (by have := nxt_length T; omega)
      rw [← HNOW.out] at hNlt hNz
      have hNsum : 64 * (nxt (T.take m) + 1) ≤ D.now.length * 64 := by omega
      obtain ⟨ad, rfl, _⟩ := hrd.2 (by omega)
      have hrb0 : RB wr (.slice (some ad) (D.now.length * 64) c) (flat D.now) := RB.mk' hflen hcn (by omega) (by unfold maxLen; omega) hrd
      have hcut := RB.drop (k := 64 * nxt (T.take m)) (RB.take (k := 64 * (nxt (T.take m) + 1)) hrb0 (by omega)) (by omega)
      rw [flat_cut _ H64.out _ hNlt, if_neg (by omega)] at hcut
      have hgd : D.now[nxt (T.take m)] = D.now.getD (nxt (T.take m)) [] := by rw [List.getD_eq_getElem?_getD, List.getElem?_eq_getElem hNlt]; rfl
      rw [hgd] at hcut
      simp only [Option.map_some] at hcut
      have hrst := RB.drop (k := 64 * nxt (T.take m)) hrb0 (by omega)
      obtain ⟨rest, hrest⟩ := flat_at T tail (fun s hs => H64.out s (by rw [HNOW.out]; exact List.mem_append.2 (.inr hs))) m hmT
      rw [← HNOW.out] at hrest
      rw [hrest, if_neg (by omega)] at hrst
      simp only [Option.map_some] at hrst
      have hTm := HT.out _ (List.getElem_mem hmT)
      have HTM := Lib.hid hTm
      have HNZ := Lib.hid hNz
      have htk : T.take (m + 1) = T.take m ++ [T[m]] := List.take_succ_eq_append_getElem hmT
      have hnx : nxt (T.take (m + 1)) = nxt (T.take m) + spanN (T[m].length + 20) := by rw [htk, nxt_snoc]
      have hnx2 := nxt_take_le T (m + 1)
      have HTK := Lib.hid htk
      have HNX := Lib.hid hnx
      obtain ⟨lA, lc, hlv, hlc⟩ := Own.slice hlog.row
      have hvsl : vs.length = m := by have := hlog.els.1; rw [List.length_take] at this; omega
      subst hlv
      subst hvsl
      have hm4 : vs.length ≤ 4096 := by have := nxt_length T; omega
      clear hgd hTm hNz htk hnx hrest
      generalize nxt (T.take vs.length) = N at *
      subst hva
      have HBK : Hid (∀ n, Calls Try.prog 50 #[.slice (some (ad.add (64 * N))) (64 * (N + 1) - 64 * N) (c - 64 * N)] (wr.drewN n) fun e w' => e = .returned (.bool false) ∧ wr.drewN n = w') := Lib.hid (fun n => by
        have := blank_calls _ _ _ (RB.drewN hcut n)
        rwa [HNZ.out] at this)
      go_wp2
      go_quiet (first | (go_at_call 48; exact quiet_left (sectors_at _ (DiskAt.drewN hd _))) | (go_at_call 50; exact quiet_left (HBK.out _)))
      have hm1 : lenCell (wr.cell? ⟨bl, 1, none⟩) = vs.length := by rw [hlog.c1]; rfl
      have HM1 := Lib.hid hm1
      clear hm1
      have hb' := Below.drewN hb nq
      have hlog' := hlog.changed ((Changed.refl (fun _ => False) _).drewN nq) (NoTy.none _ _) (NoTy.none _ _) (NoTy.none _ _)
      have hown' := Own.drewN hown nq
      have hrst' := RB.drewN hrst nq
      have d2 := hlog'.c2
      have hmN : vs.length + 1 < 2 ^ 64 := by omega
      have HMN := Lib.hid hmN
      clear hmN
      generalize wr.drewN nq = w3 at *
      clear hlog hown hrst hcut hb hd hrb0 hrd c1 c2
      go_wp2_with (first
        | (go_at_call 51; refine (fread_calls _ (vs.length + 1) _ rest _ hrst' (by omega) HMN.out HTM.out).mono ?_; rintro e w4 ⟨v4, rfl, hown4, hb4⟩; obtain ⟨A4, c4, hv4, hc4, hr4⟩ := Own.reads hown4; subst hv4; have hlog4 := hlog'.below hb4; have hbw4 := Below.step hb' hb'.size hb4; have hown4' := Own.below hown' hb4; have c1 := hlog4.c1; have c2 := hlog4.c2)
        | (at_builtin; refine wpList_append1 rfl (.tmp 80) (.tmp 82) 75 41 _ 24 rfl Try.underlying75 row_info rfl (by omega) _ vs _ rfl rfl rfl hlog4.row hbw4 hbw4.size (by omega) ?_; intro v5 w5 hown5 hb5 hg5 hat5; obtain ⟨A5, c5, hv5, hc5⟩ := Own.slice hown5; subst hv5; have hpush := LogB.push hlog4 (Own.low hown4 hb'.size) hg5 hown5; simp only [List.length_append, List.length_cons, List.length_nil, Nat.zero_add] at hpush; have hh5 := hlog4.head.grown hg5 (fun e => own_blk_ne hlog4.row hlog4.head (by decide) e.symm); have e1 : w5.cell? ⟨bl, 1, none⟩ = some (.slice lA vs.length lc) := hh5.cell 1; have f1 := hh5.frozen 1))
      have hh6 : Blk (w5.setCell ⟨bl, 1, none⟩ (.slice A5 (vs.length + 1) c5)) bl 102 #[.pointer (some ⟨b, 0, none⟩), .slice A5 (vs.length + 1) c5, .int .i64 (N : Int), .bool false] := by simpa using hh5.set_ 1 (.slice A5 (vs.length + 1) c5)
      have e62 : (w5.setCell ⟨bl, 1, none⟩ (.slice A5 (vs.length + 1) c5)).drew.cell? ⟨bl, 2, none⟩ = some (.int .i64 (N : Int)) := hh6.drew.cell 2
      have f62 : (w5.setCell ⟨bl, 1, none⟩ (.slice A5 (vs.length + 1) c5)).drew.frozen? ⟨bl, 2, none⟩ = false := hh6.drew.frozen 2
      refine wp_region_E (S := fun w' => w'.cell? ⟨bl, 2, none⟩ = some (.int .i64 (N : Int)) ∧ w'.frozen? ⟨bl, 2, none⟩ = false) (late := [9]) (by kernel_rfl) ⟨e62, f62⟩ (fun hHeld => ?_)
      refine wpAnyE_take (i := 0) (v := ?_) rfl (by kernel_rfl) (fun _ _ _ h => h) (Or.inl ⟨by rfl, ?_⟩) (by assumption) ?_
      rotate_left
      · (intro w hSw; (try dsimp only at hSw); go_simp; try with_reducible rfl)
      try simp only [Act.put, List.setIfInBounds_toArray, List.set_cons_zero, List.set_cons_succ]
      refine wpAnyE_take (i := 1) (v := ?_) rfl (by kernel_rfl) (fun _ _ _ h => h) (Or.inl ⟨by rfl, ?_⟩) (by assumption) ?_
      rotate_left
      · (intro w hSw; (try dsimp only at hSw); go_simp; try with_reducible rfl)
      try simp only [Act.put, List.setIfInBounds_toArray, List.set_cons_zero, List.set_cons_succ]
      refine wpAnyE_take (i := 2) (v := ?_) rfl (by kernel_rfl) (fun _ _ _ h => h) (Or.inl ⟨by rfl, ?_⟩) (by assumption) ?_
      rotate_left
      · (intro w hSw; (try dsimp only at hSw); go_simp; try with_reducible rfl)
      try simp only [Act.put, List.setIfInBounds_toArray, List.set_cons_zero, List.set_cons_succ]
      refine wpAnyE_take (i := 3) (v := ?_) rfl (by kernel_rfl) (fun _ _ _ h => h) (Or.inl ⟨by rfl, ?_⟩) (by assumption) ?_
      rotate_left
      · (intro w hSw; (try dsimp only at hSw); go_simp; try with_reducible rfl)
      try simp only [Act.put, List.setIfInBounds_toArray, List.set_cons_zero, List.set_cons_succ]
      refine wpAnyE_take (i := 4) (v := ?_) rfl (by kernel_rfl) (fun _ _ _ h => h) (Or.inl ⟨by rfl, ?_⟩) (by assumption) ?_
      rotate_left
      · (intro w hSw; (try dsimp only at hSw); go_simp; try with_reducible rfl)
      try simp only [Act.put, List.setIfInBounds_toArray, List.set_cons_zero, List.set_cons_succ]
      refine wpAnyE_step (i := 5) rfl (by kernel_rfl) (fun K hK => ?_)
      rw [if_pos (by rfl)]
      (go_simp; go_at_call 52; refine (span_calls (T[vs.length].length + 20) (by have := HTM.out; omega) _).mono ?_; rintro e w' ⟨rfl, rfl⟩)
      refine hK _ _ hHeld (fun hHeld => ?_)
      clear hK K
      try simp only [Act.put, List.setIfInBounds_toArray, List.set_cons_zero, List.set_cons_succ]
      refine wpAnyE_take (i := 6) (v := ?_) rfl (by kernel_rfl) (fun _ _ _ h => h) (Or.inl ⟨by rfl, ?_⟩) (by assumption) ?_
      rotate_left
      · (intro w hSw; (try dsimp only at hSw); go_simp; try with_reducible rfl)
      try simp only [Act.put, List.setIfInBounds_toArray, List.set_cons_zero, List.set_cons_succ]
      refine wpAnyE_step (i := 7) rfl (by kernel_rfl) (fun K hK => ?_)
      rw [if_pos (by rfl)]
      go_simp
      refine hK _ _ (by assumption) (fun hHeld => ?_)
      clear hK K
      try simp only [Act.put, List.setIfInBounds_toArray, List.set_cons_zero, List.set_cons_succ]
      refine wpAnyE_step (i := 8) rfl (by kernel_rfl) (fun K hK => ?_)
      rw [if_pos (by rfl)]
      go_simp
      refine hK _ _ (by assumption) (fun hHeld => ?_)
      clear hK K
      try simp only [Act.put, List.setIfInBounds_toArray, List.set_cons_zero, List.set_cons_succ]
      refine wpAnyE_late (i := 9) rfl (by kernel_rfl) (by kernel_rfl) (fun K hK => ?_)
      rw [if_pos (by rfl)]
      go_simp
      refine hK _ _ ?_
      clear hK K
      try simp only [Act.put, List.setIfInBounds_toArray, List.set_cons_zero, List.set_cons_succ]
      refine wpAnyE_done (by kernel_rfl) ?_ _
      go_wp2
      go_roundw
      case rel =>
        have hw : IntKind.i64.wrap ((N : Int) + (spanN (T[vs.length].length + 20) : Int)) = ((N + spanN (T[vs.length].length + 20) : Nat) : Int) := by
          rw [IntWalk.i64_in _ (by have := HNX.out; omega), Int.natCast_add]
        obtain ⟨hp1, hp2⟩ := hpush (N + spanN (T[vs.length].length + 20))
        rw [← hw] at hp1 hp2
        rw [← HTK.out, ← HNX.out] at hp1
        refine ⟨vs.length + 1, _, _, by omega, hp1, hown4'.changed hp2 (fun k hk ht => ?_), hbw4.trans ?_⟩
        · rcases hk with rfl | hk
          · exact absurd (hlog4.head.ty.uniq ht) (by decide)
          · exact absurd ((ownsRow_ty hlog4.row k hk.symm).uniq ht) (by decide)
        · exact ⟨hp2.os, hp2.tape, hp2.output, hp2.size, fun k hk => hp2.block k (by have := hbw4.size; omega) (fun h => by
            rcases h with rfl | h
            · omega
            · have := Own.lo hlog4.row k h.symm; omega)⟩
      case measure =>
        have hw : IntKind.i64.wrap ((N : Int) + (spanN (T[vs.length].length + 20) : Int)) = ((N + spanN (T[vs.length].length + 20) : Nat) : Int) := by
          rw [IntWalk.i64_in _ (by have := HNX.out; omega), Int.natCast_add]
        obtain ⟨hp1, hp2⟩ := hpush (N + spanN (T[vs.length].length + 20))
        rw [← hw] at hp1 hp2
        have h2 := congrArg lenCell hp1.c1
        rw [HM1.out]
        exact Nat.lt_of_le_of_lt (Nat.sub_le_sub_left (Nat.le_of_eq (show vs.length + 1 = _ from h2.symm)) _) (by omega)
    · obtain rfl : m = T.length := by omega
      have hrb0 : RB wr (.slice A (D.now.length * 64) c) (flat D.now) := RB.mk' hflen hcn (by omega) (by unfold maxLen; omega) hrd
      subst hva
      have haway : Away (.slice A (D.now.length * 64) c) F := fun k hk hf => by
        have h1 := Own.lo hown k hk
        have h2 := hF k hf
        omega
      rw [List.take_length] at hlog hNle c2
      by_cases hNn : nxt T < D.now.length
      · obtain ⟨ad, rfl, _⟩ := hrd.2 (by omega)
        have hcut := RB.drop (k := 64 * nxt T) (RB.take (k := 64 * (nxt T + 1)) hrb0 (by omega)) (by omega)
        rw [flat_cut _ H64.out _ hNn, if_neg (by omega)] at hcut
        simp only [Option.map_some] at hcut
        have hz : zeroB D.now[nxt T] = true := by
          refine HTL.out _ ?_
          have h1 := img_drop 1 T tail T.length
          rw [List.take_length, List.drop_length, ← HNOW.out] at h1
          have h2 := congrArg List.head? h1
          rw [List.head?_drop, List.getElem?_eq_getElem hNn] at h2
          simpa [img] using h2.symm
        have HBK : Hid (∀ n, Calls Try.prog 50 #[.slice (some (ad.add (64 * nxt T))) (64 * (nxt T + 1) - 64 * nxt T) (c - 64 * nxt T)] (wr.drewN n) fun e w' => e = .returned (.bool true) ∧ wr.drewN n = w') := Lib.hid (fun n => by
          have := blank_calls _ _ _ (RB.drewN hcut n)
          rwa [hz] at this)
        clear hcut hz
        have hNsum : 64 * (nxt T + 1) ≤ D.now.length * 64 := by omega
        have HY2 := Lib.hid hown
        clear hown
        go_wp2
        go_quiet (first | (go_at_call 48; exact quiet_left (sectors_at _ (DiskAt.drewN hd _))) | (go_at_call 50; exact quiet_left (HBK.out _)))
        have hb' := Below.drewN hb nq
        have hlog' := hlog.changed ((Changed.refl (fun _ => False) _).drewN nq) (NoTy.none _ _) (NoTy.none _ _) (NoTy.none _ _)
        have hd' := DiskAt.drewN hd nq
        have hrb' := RB.drewN hrb0 nq
        have d2 := hlog'.c2
        generalize wr.drewN nq = w3 at *
        clear hlog hb hd hrb0 hrd c1 c2
        rcases (Nat.eq_zero_or_pos Y.2) with hy | hy
        · have HYZ := Lib.hid hy
          clear hy
          go_wp2_with (go_at_call 53; refine (wipe_calls _ hd' HOP.out _ D.now H64.out rfl hrb' haway _ hNle).mono ?_; rintro e w4 ⟨rfl, F4, hd4, hs4, hc4⟩; rw [HY.out] at hd4 ⊢; rw [HYZ.out])
          go_ret2
          refine ⟨_, rfl, ⟨F4, hd4, hs4.low hb'.size, (Changed.of_below hb').trans hc4 (fun k hk => .inl hk)⟩, ?_⟩
          exact ⟨bl, rfl, hwb, lv, vs, hlog'.changed hc4 (hd'.noTy _ (by decide) (by decide) (by decide)) (hd'.noTy _ (by decide) (by decide) (by decide)) (hd'.noTy _ (by decide) (by decide) (by decide))⟩
        · have hyb : ((Y.2 : Int) != 0) = true := by rw [bne_iff_ne]; omega
          go_wp2_with (go_at_call 53; refine (wipe_calls _ hd' HOP.out _ D.now H64.out rfl hrb' haway _ hNle).mono ?_; rintro e w4 ⟨rfl, F4, hd4, hs4, hc4⟩; rw [HY.out] at hd4 ⊢)
          go_ret2
          exact ⟨rfl, F4, hd4, hs4.low hb'.size, (Changed.of_below hb').trans hc4 (fun k hk => .inl hk)⟩
      · have hg : decide (((nxt T : Nat) : Int) < (D.now.length : Int)) = false := decide_eq_false (by omega)
        have HY2 := Lib.hid hown
        clear hown
        go_wp2
        go_quiet ((go_at_call 48; exact quiet_left (sectors_at _ (DiskAt.drewN hd _))))
        have hb' := Below.drewN hb nq
        have hlog' := hlog.changed ((Changed.refl (fun _ => False) _).drewN nq) (NoTy.none _ _) (NoTy.none _ _) (NoTy.none _ _)
        have hd' := DiskAt.drewN hd nq
        have hrb' := RB.drewN hrb0 nq
        have d2 := hlog'.c2
        generalize wr.drewN nq = w3 at *
        clear hlog hb hd hrb0 hrd c1 c2
        rcases (Nat.eq_zero_or_pos Y.2) with hy | hy
        · have HYZ := Lib.hid hy
          clear hy
          go_wp2_with (go_at_call 53; refine (wipe_calls _ hd' HOP.out _ D.now H64.out rfl hrb' haway _ hNle).mono ?_; rintro e w4 ⟨rfl, F4, hd4, hs4, hc4⟩; rw [HY.out] at hd4 ⊢; rw [HYZ.out])
          go_ret2
          refine ⟨_, rfl, ⟨F4, hd4, hs4.low hb'.size, (Changed.of_below hb').trans hc4 (fun k hk => .inl hk)⟩, ?_⟩
          exact ⟨bl, rfl, hwb, lv, vs, hlog'.changed hc4 (hd'.noTy _ (by decide) (by decide) (by decide)) (hd'.noTy _ (by decide) (by decide) (by decide)) (hd'.noTy _ (by decide) (by decide) (by decide))⟩
        · have hyb : ((Y.2 : Int) != 0) = true := by rw [bne_iff_ne]; omega
          go_wp2_with (go_at_call 53; refine (wipe_calls _ hd' HOP.out _ D.now H64.out rfl hrb' haway _ hNle).mono ?_; rintro e w4 ⟨rfl, F4, hd4, hs4, hc4⟩; rw [HY.out] at hd4 ⊢)
          go_ret2
          exact ⟨rfl, F4, hd4, hs4.low hb'.size, (Changed.of_below hb').trans hc4 (fun k hk => .inl hk)⟩
end Go.Proofs.Ytmfjhejhbomlpaa
