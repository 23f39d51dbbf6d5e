/- The walk that opens a store; get, used, room. -/
import Derived.Test.YtmfjhejhbomlpaaSj
import Derived.Test.YtmfjhejhbomlpaaSg
set_option linter.unusedVariables false
set_option linter.unusedSimpArgs false
namespace Go.Proofs.Ytmfjhejhbomlpaa
open Go.RowKit

/-- What texts come to. -/
def replay : List (List UInt8) → List Pr → Option (List Pr)
  | [], L => some L
  | t :: r, L => match decB t with
    | none => none
    | some cs => replay r (doneL L cs)

theorem sopen_neg (w : World) (v : Value) (q : Int) (hq : q < 0) : Calls Try.prog 10 #[v, .int .i64 q] w fun e w' => e = .returned (.tuple #[.pointer none, .int .i64 2]) ∧ w = w' := by
  go_enter Try.func10, Try.ntmps10
  go_wp2
  go_ret2
  exact ⟨rfl, rfl⟩
theorem sopen_nil (w : World) (q : Int) (hq : 0 ≤ q) : Calls Try.prog 10 #[.pointer none, .int .i64 q] w fun e w' => e = .returned (.tuple #[.pointer none, .int .i64 1]) ∧ w = w' := by
  go_enter Try.func10, Try.ntmps10
  go_wp2_with (go_at_call 29; refine (open_nil _).mono ?_; rintro e w' ⟨rfl, rfl⟩)
  go_ret2
  exact ⟨rfl, rfl⟩
theorem sopen_off {b : Nat} {D : DM} {F : Nat → Prop} (w : World) (h : DiskAt w b D F) (ho : D.off = true) (q : Int) (hq : 0 ≤ q) :
    Calls Try.prog 10 #[.pointer (some ⟨b, 0, none⟩), .int .i64 q] w fun e w' => e = .returned (.tuple #[.pointer none, .int .i64 14]) ∧ w = w' := by
  have HO := Lib.hid ho
  clear ho
  go_enter Try.func10, Try.ntmps10
  go_wp2_with (go_at_call 29; refine (open_off _ h HO.out).mono ?_; rintro e w' ⟨rfl, rfl⟩)
  go_ret2
  exact ⟨rfl, rfl⟩
theorem sopen_wipe {b : Nat} {D : DM} {F : Nat → Prop} (w : World) (h : DiskAt w b D F) (ho : D.off = false) (hop : D.opn.length ≤ 900000) (T tail : List (List UInt8)) (hT : ∀ t ∈ T, t.length ≤ 16384) (hnow : D.now = img 1 T ++ tail) (htail : ∀ s, tail.head? = some s → zeroB s = true)
    (q : Int) (hq : 0 ≤ q) (hw : (wipeG D.now (nxt T) (D.now.length - nxt T) D false).2 ≠ 0) :
    Calls Try.prog 10 #[.pointer (some ⟨b, 0, none⟩), .int .i64 q] w fun e w' => e = .returned (.tuple #[.pointer none, .int .i64 ((wipeG D.now (nxt T) (D.now.length - nxt T) D false).2 : Int)]) ∧
      ∃ F', DiskAt w' b (wipeG D.now (nxt T) (D.now.length - nxt T) D false).1 F' ∧ Sub w F F' ∧ Changed F w w' := by
  have hoc := open_calls w h ho hop T tail hT hnow htail
  generalize wipeG D.now (nxt T) (D.now.length - nxt T) D false = Y at *
  have hyb : ((Y.2 : Int) != 0) = true := by rw [bne_iff_ne]; omega
  simp only [if_neg hw] at hoc
  have HOC := Lib.hid hoc
  clear hoc ho hop hT hnow htail hw
  go_enter Try.func10, Try.ntmps10
  go_wp2_with (go_at_call 29; refine HOC.out.mono ?_; rintro e w1 ⟨v, rfl, ⟨F1, hd1, hs1, hc1⟩, rfl⟩)
  go_ret2
  exact ⟨rfl, F1, hd1, hs1, hc1⟩

theorem decB_good {b : List UInt8} {cs : List Chg} (h : decB b = some cs) : checkG cs = 0 := by
  unfold decB at h
  split at h
  · cases hd : decN (rdVar b 0 0).1 (b.drop (rdVar b 0 0).2.1) [] with
    | none => rw [hd] at h; cases h
    | some y =>
      obtain ⟨c, r⟩ := y
      rw [hd] at h
      unfold decFin at h
      simp only at h
      split at h <;> rename_i hc
      · injection h with h
        rw [← h]
        exact hc.2
      · cases h
  · cases h
theorem decode_some (w : World) (v : Value) (b : List UInt8) (h : RB w v b) (hbl : b.length ≤ 1000000) {cs : List Chg} (hd : decB b = some cs) :
    Calls Try.prog 31 #[v] w fun e w' => ∃ u xs, e = .returned (.tuple #[u, .int .i64 0]) ∧ Hid (xs.map Prod.fst = cs) ∧ OwnCL w' w.heap.size u xs ∧ Below w.heap.size w w' := by
  refine (decode_calls w v b h hbl).mono ?_
  rintro e w' (⟨u, xs, h1, rfl, h2, h3⟩ | ⟨h1, _⟩)
  · rw [hd] at h1
    injection h1 with h1
    exact ⟨u, xs, rfl, Lib.hid h1.symm, h2, h3⟩
  · rw [hd] at h1
    cases h1
theorem decode_none (w : World) (v : Value) (b : List UInt8) (h : RB w v b) (hbl : b.length ≤ 1000000) (hd : decB b = none) :
    Calls Try.prog 31 #[v] w fun e w' => e = .returned (.tuple #[.slice none 0 0, .int .i64 4]) ∧ Below w.heap.size w w' := by
  refine (decode_calls w v b h hbl).mono ?_
  rintro e w' (⟨u, xs, h1, rfl, h2, h3⟩ | ⟨h1, rfl, h2⟩)
  · rw [hd] at h1
    cases h1
  · exact ⟨rfl, h2⟩
/-- The store's own blocks are of their own kinds. -/
theorem sfoot_noTy {w : World} {B sb bl bm n : Nat} {q u : Int} {L : List Pr} (hh : Blk w sb 67 (stC bl bm q u)) (hm : MapB w B bm n L) (t : TypeId) (ht : 67 ≠ t) : NoTy w (sfoot sb bm) t := by
  rintro k (rfl | rfl) h
  · exact ht (hh.ty.uniq h)
  · exact hm.noTy t h
theorem sfoot_apart {w : World} {B sb bl bm bd n : Nat} {q u : Int} {L : List Pr} {l : LM} {FL : Nat → Prop} (hh : Blk w sb 67 (stC bl bm q u)) (hm : MapB w B bm n L) {B' bl' : Nat} (hl : LogAt w B' bl' bd l FL) : ∀ k, FL k → ¬ sfoot sb bm k := by
  intro k hk hs
  have hn := fun t ht => sfoot_noTy hh hm t ht
  rcases hl.ty k hk with h | h | h | h | h
  · exact hn _ (by decide) k hs h
  · exact hn _ (by decide) k hs h
  · exact hn _ (by decide) k hs h
  · exact hn _ (by decide) k hs h
  · exact hn _ (by decide) k hs h

set_option maxRecDepth 100000 in
set_option maxHeartbeats 4000000 in
theorem sopen_ok {b : Nat} {D : DM} {F : Nat → Prop} (w : World) (h : DiskAt w b D F) (ho : D.off = false) (hop : D.opn.length ≤ 900000) (T tail : List (List UInt8)) (hT : ∀ t ∈ T, t.length ≤ 16384) (hnow : D.now = img 1 T ++ tail) (htail : ∀ s, tail.head? = some s → zeroB s = true)
    (q : Int) (hq : 0 ≤ q) (hw : (wipeG D.now (nxt T) (D.now.length - nxt T) D false).2 = 0) (L : List Pr) (hL : replay T [] = some L) :
    Calls Try.prog 10 #[.pointer (some ⟨b, 0, none⟩), .int .i64 q] w fun e w' => ∃ sb, e = .returned (.tuple #[.pointer (some ⟨sb, 0, none⟩), .int .i64 0]) ∧
      ∃ F', StoreAt w' w.heap.size sb b ⟨⟨T, nxt T, false, (wipeG D.now (nxt T) (D.now.length - nxt T) D false).1⟩, L, q⟩ F' ∧ Sub w F F' ∧ Changed F w w' := by
  have hoc := open_calls w h ho hop T tail hT hnow htail
  have hTl : T.length ≤ 4096 := by
    have h1 := nxt_length T
    have h2 : nxt T ≤ D.now.length := by rw [hnow, List.length_append, img_length]; omega
    have := h.ok.max
    omega
  have hFl := h.lt
  generalize wipeG D.now (nxt T) (D.now.length - nxt T) D false = Y at *
  simp only [if_pos hw] at hoc
  have HOC := Lib.hid hoc
  have HY := Lib.hid hw
  have HT := Lib.hid hT
  have HL := Lib.hid hL
  clear hoc ho hop hT hnow htail hw hL
  have hmm := @run_makeMap Try.prog
  go_enter Try.func10, Try.ntmps10
  go_upto_region 6 with (go_at_call 29; refine HOC.out.mono ?_; rintro e w1 ⟨v, rfl, ⟨F1, hd1, hs1, hc1⟩, bl, rfl, hbl, lv, vs, hlog⟩; rw [HY.out])
  go_upto_region 7 with fail
  have hm0 := (MapB.made w1 w.heap.size).below ((Below.refl _ _).alloc (Nat.le_refl _) (.cells #[.pointer (some ⟨bl, 0, none⟩), .int .i64 q, .int .i64 0, .map (some w1.heap.size)] 67))
  have hh0 : Blk ((w1.alloc (.map #[] 0)).alloc (.cells #[.pointer (some ⟨bl, 0, none⟩), .int .i64 q, .int .i64 0, .map (some w1.heap.size)] 67)) (w1.heap.size + 1) 67 (stC bl w1.heap.size q (bytesL [] : Int)) := by
    have := Blk.new (w1.alloc (.map #[] 0)) 67 #[.pointer (some ⟨bl, 0, none⟩), .int .i64 q, .int .i64 0, .map (some w1.heap.size)]
    simpa [stC, bytesL] using this
  have hb0 : Below w1.heap.size w1 ((w1.alloc (.map #[] 0)).alloc (.cells #[.pointer (some ⟨bl, 0, none⟩), .int .i64 q, .int .i64 0, .map (some w1.heap.size)] 67)) := ((Below.refl _ _).alloc (Nat.le_refl _) _).alloc (by simp) _
  have hl1 : LogAt w1 w.heap.size bl b ⟨T, nxt T, false, Y.1⟩ (lfoot F1 bl lv) := ⟨F1, lv, vs, hlog, hd1, rfl⟩
  have hl0 := hl1.below hb0
  have hlog0 := hlog.below hb0
  have hsu : Sub w F (fun k => lfoot F1 bl lv k ∨ sfoot (w1.heap.size + 1) w1.heap.size k) := fun k hk => by
    have hsz := hc1.size
    rcases hk with (hk | rfl | hk) | rfl | rfl
    · exact hs1 k hk
    · exact .inr hbl
    · exact .inr (Own.lo hlog.row k hk)
    · exact .inr (by omega)
    · exact .inr (by omega)
  have hch0 : Changed F w ((w1.alloc (.map #[] 0)).alloc (.cells #[.pointer (some ⟨bl, 0, none⟩), .int .i64 q, .int .i64 0, .map (some w1.heap.size)] 67)) := hc1.trans (Changed.of_below (S := fun _ => False) hb0) (fun _ h => h.elim)
  obtain ⟨sb, hsb⟩ : ∃ sb, w1.heap.size + 1 = sb := ⟨_, rfl⟩
  obtain ⟨bm, hbm⟩ : ∃ bm, w1.heap.size = bm := ⟨_, rfl⟩
  have hbmsz : w.heap.size ≤ bm := by have := hc1.size; omega
  have hsbsz : w.heap.size ≤ sb := by have := hc1.size; omega
  rw [hsb] at hh0 hsu ⊢
  rw [hbm] at hm0 hh0 hl0 hlog0 hsu hch0 ⊢
  generalize (w1.alloc (.map #[] 0)).alloc (.cells #[.pointer (some ⟨bl, 0, none⟩), .int .i64 q, .int .i64 0, .map (some bm)] 67) = W at *
  clear hb0 hl1 hlog hs1 hc1 hd1 hsb hbm hmm hbl
  go_wp2_with (go_at_call 30; refine (texts_calls _ false hlog0 hTl HT.out).mono ?_; rintro e w2 ⟨tv, us, rfl, hou, heu, hb2⟩; obtain ⟨tA, tc, htv, htc⟩ := Own.slice hou; subst htv)
  have hul := heu.1
  have HUL := Lib.hid hul
  have hul2 : us.length ≤ 4096 := by omega
  have hh2 := hh0.below hb2 hh0.lt
  have hm2 := hm0.below hb2
  have hl2 := hl0.below hb2
  have hch2 := hch0.trans (Changed.of_below (S := fun _ => False) hb2) (fun _ h => h.elim)
  have hWs := hch0.size
  have hou2 := Own.low hou hWs
  have heu2 := Els.low heu hWs
  clear hou heu hm0 hh0 hl0 hlog0 hch0 hul
  have hrp : replay (T.drop 0) [] = some L := HL.out
  have HRP := Lib.hid hrp
  clear hrp
  go_loopw [31] (fun i wr => ∃ (k : Nat) (Lk : List Pr), k ≤ us.length ∧ i = .int .i64 (k : Int) ∧ Hid (replay (T.drop k) Lk = some L) ∧ SortedL Lk ∧ bytesL Lk ≤ 66176 * k ∧ Blk wr sb 67 (stC bl bm q (bytesL Lk : Int)) ∧ MapB wr w.heap.size bm (16 * k) Lk ∧ LogAt wr w.heap.size bl b ⟨T, nxt T, false, Y.1⟩ (lfoot F1 bl lv) ∧ Own wr w.heap.size 41 (.slice tA us.length tc) us ∧ Els wr w.heap.size us T ∧ Changed F w wr) (fun i _ => us.length - (intOf i).toNat)
  case atStart => exact ⟨0, [], Nat.zero_le _, rfl, HRP, List.Pairwise.nil, Nat.zero_le _, hh2, hm2, hl2, hou2, heu2, hch2⟩
  case round =>
    obtain ⟨k, Lk, hk, rfl, HR, hsk, hbk, hh, hm, hl, hou, heu, hch⟩ := hrel
    clear hh2 hm2 hl2 hou2 heu2 hch2 hb2
    have hsz := hch.size
    by_cases hlt : k < us.length
    · have hkT : k < T.length := by rw [← HUL.out]; exact hlt
      have hr := HR.out
      rw [List.drop_eq_getElem_cons hkT, replay] at hr
      cases hdb : decB T[k] with
      | none => rw [hdb] at hr; cases hr
      | some cs =>
        rw [hdb] at hr
        simp only at hr
        have hg := check_good (decB_good hdb)
        obtain ⟨_, _, e9, _, hrd⟩ := Own.reads hou
        injection e9 with e1 _ e3
        subst e1 e3
        obtain ⟨ad, u, rfl, hadb, hu, hcu⟩ := hrd.at_ hlt
        have hou9 : OwnB wr w.heap.size 5 u T[k] := heu.2 k u T[k] hu (List.getElem?_eq_getElem hkT)
        have hlen := HT.out _ (List.getElem_mem hkT)
        have hru : RB wr u T[k] := OwnB.rb hou9 (by omega)
        have hdc := decode_some wr u T[k] hru (by omega) hdb
        have HDC := Lib.hid hdc
        have HDB := Lib.hid hdb
        have HG := Lib.hid hg
        have HR2 := Lib.hid hr
        obtain ⟨uA, uc, hue, _⟩ := Own.slice hou9
        subst hue
        clear hdc hdb hg hr HR hru hou9 hlen hrd hu
        go_upto_region 13 with (go_at_call 31; refine HDC.out.mono ?_; rintro e w3 ⟨u3, xs, rfl, HX, hcl3, hb3⟩)
        have hh3 := hh.below hb3 hh.lt
        have hm3 := hm.below hb3
        have hl3 := hl.below hb3
        have hou3 := Own.below hou hb3
        have heu3 := heu.changed (Changed.of_below (S := fun _ => False) hb3) (NoTy.none _ _)
        have hch3 := hch.trans (Changed.of_below (S := fun _ => False) hb3) (fun _ h => h.elim)
        have hsz3 := hb3.size
        have hgx : GoodC (xs.map Prod.fst) := by rw [HX.out]; exact HG.out
        have hx16 : xs.length ≤ 16 := by have := hgx.max; rwa [List.length_map] at this
        have hclx : CL w3 u3 xs := hcl3.cl (by omega) (fun x hx => by
          have hm : x.1 ∈ xs.map Prod.fst := List.mem_map.2 ⟨x, hx, rfl⟩
          have h1 := (namedB_len (hgx.key _ hm)).2
          rw [str_length] at h1
          have h2 := hgx.val _ hm
          omega)
        have hbd := bytes_done (xs.map Prod.fst) Lk hsk (fun c hc => by have := (namedB_len (hgx.key c hc)).2; rwa [str_length] at this) (fun c hc => hgx.val c hc)
        rw [List.length_map] at hbd
        have hdo := do_calls w3 (B := w.heap.size) (by omega) hh3 hm3 hsk (by omega) (by omega) u3 xs hclx hgx (hcl3.away (sfoot_noTy hh3 hm3 _ (by decide)) (sfoot_noTy hh3 hm3 _ (by decide)))
        have hap := sfoot_apart hh3 hm3 hl3
        have hn1 := sfoot_noTy hh3 hm3 5 (by decide)
        have hn2 := sfoot_noTy hh3 hm3 41 (by decide)
        rw [HX.out] at hdo hbd
        have HDO := Lib.hid hdo
        have HAP := Lib.hid hap
        have HN1 := Lib.hid hn1
        have HN2 := Lib.hid hn2
        clear hdo hap hn1 hn2 hgx hclx hh hm hl hou heu hch hb3
        go_wp2_with (go_at_call 32; refine HDO.out.mono ?_; rintro e w4 ⟨rfl, hh4, hm4, hc4⟩)
        go_roundw
        case rel => exact ⟨k + 1, doneL Lk cs, by omega, by go_num, HR2, sorted_done _ _ hsk, by omega, hh4, hm4.mono (by omega), hl3.changed hc4 HAP.out HN1.out, hou3.changed hc4 HN2.out, heu3.changed hc4 HN1.out, hch3.trans hc4 (fun j hj => .inr (by rcases hj with rfl | rfl <;> omega))⟩
        case measure => simp [intOf]; omega
    · obtain rfl : k = us.length := by omega
      have hr := HR.out
      rw [List.drop_of_length_le (by rw [HUL.out]; exact Nat.le_refl _)] at hr
      have hLe : Lk = L := by simpa [replay] using hr
      subst hLe
      clear hr
      go_wp2
      go_ret2
      exact ⟨sb, rfl, _, ⟨bl, bm, _, hh, hl, hm.mono (by rw [HUL.out]; exact Nat.le_refl _), rfl⟩, hsu, hch⟩
end Go.Proofs.Ytmfjhejhbomlpaa
