/- A log as plain data, with its disk; what an append does to it; the walk of an append, whole. -/
import Derived.Test.YtmfjhejhbomlpaaSe
set_option linter.unusedVariables false
set_option linter.unusedSimpArgs false
namespace Go.Proofs.Ytmfjhejhbomlpaa
open Go.RowKit

/-- A log: its texts, where the next frame goes, whether it is dead, its disk. -/
structure LM where
  T : List (List UInt8)
  next : Nat
  dead : Bool
  D : DM
def LM.append (l : LM) (t : List UInt8) : LM × Nat :=
  if l.dead then (l, 14) else
  if 16384 < t.length then (l, 5) else
  if l.D.now.length < l.next + spanN (t.length + 20) then (l, 11) else
  if (layG l.next (frameB (l.T.length + 1) t) l.D).2 = 0 then (⟨l.T ++ [t], l.next + spanN (t.length + 20), false, (layG l.next (frameB (l.T.length + 1) t) l.D).1⟩, 0)
  else (⟨l.T, l.next, true, (layG l.next (frameB (l.T.length + 1) t) l.D).1⟩, (layG l.next (frameB (l.T.length + 1) t) l.D).2)
/-- What a log's numbers are. -/
structure LM.ok (l : LM) : Prop where
  next : l.next = nxt l.T
  fits : l.next ≤ l.D.now.length
  opn : l.D.opn.length ≤ 900000
  text : ∀ t ∈ l.T, t.length ≤ 16384
/-- A log in memory, with its disk. -/
def LogAt (w : World) (B bl bd : Nat) (l : LM) (F : Nat → Prop) : Prop := ∃ FD lv vs, LogB w B bl bd lv vs l.next l.dead l.T ∧ DiskAt w bd l.D FD ∧ F = lfoot FD bl lv
section
variable {w w' : World} {B bl bd : Nat} {l : LM} {F : Nat → Prop}
theorem LogAt.ty (h : LogAt w B bl bd l F) : ∀ k, F k → Ty w 72 k ∨ Ty w 97 k ∨ Ty w 99 k ∨ Ty w 102 k ∨ Ty w 41 k := by
  obtain ⟨FD, lv, vs, hl, hd, rfl⟩ := h
  rintro k (hk | rfl | hk)
  · rcases hd.ty k hk with h | h | h
    · exact .inl h
    · exact .inr (.inl h)
    · exact .inr (.inr (.inl h))
  · exact .inr (.inr (.inr (.inl hl.head.ty)))
  · exact .inr (.inr (.inr (.inr (ownsRow_ty hl.row k hk))))
theorem LogAt.noTy (h : LogAt w B bl bd l F) (t : TypeId) (h1 : 72 ≠ t := by decide) (h2 : 97 ≠ t := by decide) (h3 : 99 ≠ t := by decide) (h4 : 102 ≠ t := by decide) (h5 : 41 ≠ t := by decide) : NoTy w F t := fun k hk ht => by
  rcases h.ty k hk with h | h | h | h | h
  · exact h1 (h.uniq ht)
  · exact h2 (h.uniq ht)
  · exact h3 (h.uniq ht)
  · exact h4 (h.uniq ht)
  · exact h5 (h.uniq ht)
theorem LogAt.lt (h : LogAt w B bl bd l F) : ∀ k, F k → k < w.heap.size := by
  obtain ⟨FD, lv, vs, hl, hd, rfl⟩ := h
  rintro k (hk | rfl | hk)
  · exact hd.lt k hk
  · exact hl.head.lt
  · exact Own.hi hl.row k hk
/-- Changes elsewhere. -/
theorem LogAt.changed {S : Nat → Prop} (h : LogAt w B bl bd l F) (hc : Changed S w w') (hF : ∀ k, F k → ¬ S k) (hu : NoTy w S 5) : LogAt w' B bl bd l F := by
  obtain ⟨FD, lv, vs, hl, hd, rfl⟩ := h
  refine ⟨FD, lv, vs, ⟨hl.head.frame hc (hF bl (.inr (.inl rfl))), ownsRow_frame hl.row hc (fun k hk => hF k (.inr (.inr hk))), hl.els.changed hc hu⟩, hd.frame hc (fun k hk => hF k (.inl hk)), rfl⟩
theorem LogAt.below (h : LogAt w B bl bd l F) (hb : Below w.heap.size w w') : LogAt w' B bl bd l F := h.changed (Changed.of_below (S := fun _ => False) hb) (fun _ _ h => h) (NoTy.none _ _)
theorem LogAt.low {B' : Nat} (h : LogAt w B bl bd l F) (hb : B' ≤ B) : LogAt w B' bl bd l F := by
  obtain ⟨FD, lv, vs, hl, hd, rfl⟩ := h
  exact ⟨FD, lv, vs, hl.low hb, hd, rfl⟩
theorem LM.ok.T_len (h : l.ok) (hmax : l.D.now.length ≤ 4096) : l.T.length ≤ 4096 := by
  have := nxt_length l.T
  have := h.next
  have := h.fits
  omega

theorem append_at (w : World) (hB : B ≤ w.heap.size) (h : LogAt w B bl bd l F) (ho : l.ok) (v : Value) (t : List UInt8) (hv : RB w v t) (hva : Away v F) :
    Calls Try.prog 35 #[.pointer (some ⟨bl, 0, none⟩), v] w fun e w' => e = .returned (.int .i64 ((l.append t).2 : Int)) ∧
      ∃ F', LogAt w' B bl bd (l.append t).1 F' ∧ Sub w F F' ∧ Changed F w w' := by
  have hall := h
  obtain ⟨FD, lv, vs, hl, hd, rfl⟩ := h
  have hT := ho.T_len hd.ok.max
  have hwa : Away v FD := hva.mono fun k hk => .inl hk
  have hstay : ∀ w', Below w.heap.size w w' → ∃ F', LogAt w' B bl bd l F' ∧ Sub w (lfoot FD bl lv) F' ∧ Changed (lfoot FD bl lv) w w' := fun w' hb => ⟨_, hall.below hb, Sub.refl _ _, Changed.of_below hb⟩
  cases hdead : l.dead
  · rw [hdead] at hl
    by_cases hbig : 16384 < t.length
    · have e : l.append t = (l, 5) := by unfold LM.append; rw [hdead, if_neg (by decide), if_pos hbig]
      rw [e]
      refine (append_big w hl hT v t hv hbig).mono ?_
      rintro e w' ⟨rfl, rfl⟩
      exact ⟨rfl, hstay _ (Below.refl _ _)⟩
    · by_cases hfull : l.D.now.length < l.next + spanN (t.length + 20)
      · have e : l.append t = (l, 11) := by unfold LM.append; rw [hdead, if_neg (by decide), if_neg hbig, if_pos hfull]
        rw [e]
        refine (append_full w hl hd hT ho.fits v t hv (by omega) hfull).mono ?_
        rintro e w' ⟨rfl, hb⟩
        exact ⟨rfl, hstay _ hb⟩
      · by_cases hok : (layG l.next (frameB (l.T.length + 1) t) l.D).2 = 0
        · have e : l.append t = (⟨l.T ++ [t], l.next + spanN (t.length + 20), false, (layG l.next (frameB (l.T.length + 1) t) l.D).1⟩, 0) := by unfold LM.append; rw [hdead, if_neg (by decide), if_neg hbig, if_neg hfull, if_pos hok]
          rw [e]
          refine (append_ok w hB hl hd hT ho.opn v t hv hwa (by omega) (by omega) hok).mono ?_
          rintro e w' ⟨rfl, F', lv', vs', h1, h2, h3, h4⟩
          exact ⟨rfl, _, ⟨F', lv', vs', h1, h2, rfl⟩, h3, h4⟩
        · have e : l.append t = (⟨l.T, l.next, true, (layG l.next (frameB (l.T.length + 1) t) l.D).1⟩, (layG l.next (frameB (l.T.length + 1) t) l.D).2) := by unfold LM.append; rw [hdead, if_neg (by decide), if_neg hbig, if_neg hfull, if_neg hok]
          rw [e]
          refine (append_fail w hl hd hT ho.opn v t hv (by omega) (by omega) hok).mono ?_
          rintro e w' ⟨rfl, F', h1, h2, h3, h4⟩
          refine ⟨rfl, _, ⟨F', lv, vs, h1, h2, rfl⟩, fun k hk => ?_, h4⟩
          rcases hk with hk | hk
          · rcases h3 k hk with h | h
            · exact .inl (.inl h)
            · exact .inr h
          · exact .inl (.inr hk)
  · have e : l.append t = (l, 14) := by unfold LM.append; rw [hdead, if_pos rfl]
    rw [hdead] at hl
    rw [e]
    refine (append_dead w hl v).mono ?_
    rintro e w' ⟨rfl, rfl⟩
    exact ⟨rfl, hstay _ (Below.refl _ _)⟩
end

/-! ### the store as plain data -/
/-- A store: its log, what it holds, its quota. -/
structure SM where
  log : LM
  L : List Pr
  q : Int
def SM.commit (s : SM) (cs : List Chg) : SM × Nat :=
  if checkG cs ≠ 0 then (s, checkG cs) else
  if s.q < (bytesL (doneL s.L cs) : Int) ∧ bytesL s.L < bytesL (doneL s.L cs) then (s, 12) else
  if (s.log.append (encB cs)).2 = 0 then (⟨(s.log.append (encB cs)).1, doneL s.L cs, s.q⟩, 0) else (⟨(s.log.append (encB cs)).1, s.L, s.q⟩, (s.log.append (encB cs)).2)
structure SM.ok (s : SM) : Prop where
  log : s.log.ok
  sorted : SortedL s.L
  bytes : bytesL s.L ≤ 66176 * s.log.T.length
/-- A store in memory. -/
def StoreAt (w : World) (B sb bd : Nat) (s : SM) (F : Nat → Prop) : Prop := ∃ bl bm FL, Blk w sb 67 (stC bl bm s.q (bytesL s.L : Int)) ∧ LogAt w B bl bd s.log FL ∧ MapB w B bm (16 * s.log.T.length) s.L ∧ F = fun k => FL k ∨ sfoot sb bm k
section
variable {w w' : World} {B sb bd : Nat} {s : SM} {F : Nat → Prop}
theorem StoreAt.lt (h : StoreAt w B sb bd s F) : ∀ k, F k → k < w.heap.size := by
  obtain ⟨bl, bm, FL, hh, hl, hm, rfl⟩ := h
  rintro k (hk | rfl | rfl)
  · exact hl.lt k hk
  · exact hh.lt
  · exact hm.lt
theorem StoreAt.noTy (h : StoreAt w B sb bd s F) (t : TypeId) (h1 : 72 ≠ t := by decide) (h2 : 97 ≠ t := by decide) (h3 : 99 ≠ t := by decide) (h4 : 102 ≠ t := by decide) (h5 : 41 ≠ t := by decide) (h6 : 67 ≠ t := by decide) : NoTy w F t := by
  obtain ⟨bl, bm, FL, hh, hl, hm, rfl⟩ := h
  rintro k (hk | rfl | rfl) ht
  · exact hl.noTy t h1 h2 h3 h4 h5 k hk ht
  · exact h6 (hh.ty.uniq ht)
  · exact hm.noTy t ht
theorem StoreAt.changed {S : Nat → Prop} (h : StoreAt w B sb bd s F) (hc : Changed S w w') (hF : ∀ k, F k → ¬ S k) (hu : NoTy w S 5) : StoreAt w' B sb bd s F := by
  obtain ⟨bl, bm, FL, hh, hl, hm, rfl⟩ := h
  exact ⟨bl, bm, FL, hh.frame hc (hF sb (.inr (.inl rfl))), hl.changed hc (fun k hk => hF k (.inl hk)) hu, hm.changed hc hu (hF bm (.inr (.inr rfl))), rfl⟩
theorem StoreAt.below (h : StoreAt w B sb bd s F) (hb : Below w.heap.size w w') : StoreAt w' B sb bd s F := h.changed (Changed.of_below (S := fun _ => False) hb) (fun _ _ h => h) (NoTy.none _ _)
theorem StoreAt.drew (h : StoreAt w B sb bd s F) : StoreAt w.drew B sb bd s F := h.changed ((Changed.refl (fun _ => False) _).drew) (fun _ _ h => h) (NoTy.none _ _)
theorem StoreAt.drewN (h : StoreAt w B sb bd s F) (n : Nat) : StoreAt (w.drewN n) B sb bd s F := h.changed ((Changed.refl (fun _ => False) _).drewN n) (fun _ _ h => h) (NoTy.none _ _)
end

theorem costL_done_other {k : ByteArray} : ∀ (cs : List Chg) (L : List Pr), SortedL L → (∀ c ∈ cs, c.key ≠ k) → costL (doneL L cs) k = costL L k
  | [], _, _, _ => rfl
  | c :: cs, L, hs, h => by
    have ih := costL_done_other cs (ins c L) (sorted_ins c L hs) (fun x hx => h x (by simp [hx]))
    show costL (doneL (ins c L) cs) k = _
    rw [ih]
    unfold costL
    rw [getL_ins c L hs, if_neg (fun e => h c (by simp) e.symm)]
end Go.Proofs.Ytmfjhejhbomlpaa
