/- A disk whose power is on and stays on; what a log's append, a wipe come to on it. -/
import Derived.Test.YtmfjhejhbomlpaaSk
set_option linter.unusedVariables false
set_option linter.unusedSimpArgs false
namespace Go.Proofs.Ytmfjhejhbomlpaa

def DM.calm (D : DM) : Prop := D.off = false ∧ D.armed = false
theorem calm_stepped {D : DM} (h : D.calm) : D.stepped = D := by unfold DM.stepped; rw [h.2]; rfl
theorem calm_steps {D : DM} (h : D.calm) : D.steps = 0 := by unfold DM.steps; rw [h.2]; rfl
theorem calm_write {D : DM} (h : D.calm) (k : Nat) (xs : List UInt8) : D.write1 k xs = (D.putW k (padS xs), 0) := by
  unfold DM.write1
  rw [h.1, calm_steps h, calm_stepped h]
  rfl
theorem calm_sync {D : DM} (h : D.calm) : D.sync1 = (D.sync, 0) := by
  unfold DM.sync1
  rw [h.1, calm_steps h, calm_stepped h]
  rfl
theorem calm_put {D : DM} (h : D.calm) (k : Nat) (xs : List UInt8) : (D.putW k xs).calm := h
theorem calm_synced {D : DM} (h : D.calm) : D.sync.calm := h
theorem calm_wipe (now : List (List UInt8)) (f : Nat) : ∀ (m : Nat) (D : DM) (s : Bool), D.calm → (wipeG now f m D s).2 = 0 ∧ (wipeG now f m D s).1.calm
  | 0, D, s, h => by
    rw [wipeG]
    cases s
    · exact ⟨rfl, h⟩
    · rw [if_pos rfl, calm_sync h]; exact ⟨rfl, calm_synced h⟩
  | m + 1, D, s, h => by
    rw [wipeG]
    split
    · exact calm_wipe now f m D s h
    · rw [calm_write h, if_pos rfl]
      exact calm_wipe now f m _ true (calm_put h _ _)
theorem calm_layW (next : Nat) (f : List UInt8) : ∀ (m : Nat) (D : DM), D.calm → (layW next f m D).2 = 0 ∧ (layW next f m D).1.calm
  | 0, D, h => ⟨rfl, h⟩
  | m + 1, D, h => by
    rw [layW, calm_write h, if_pos rfl]
    exact calm_layW next f m _ (calm_put h _ _)
theorem calm_layEnd (next : Nat) (f : List UInt8) {D : DM} (h : D.calm) : (layEnd next f D).2 = 0 ∧ (layEnd next f D).1.calm := by
  unfold layEnd
  rw [calm_write h, if_pos rfl, calm_sync (calm_put h _ _)]
  exact ⟨rfl, calm_synced (calm_put h _ _)⟩
theorem calm_lay (next : Nat) (f : List UInt8) {D : DM} (h : D.calm) : (layG next f D).2 = 0 ∧ (layG next f D).1.calm := by
  unfold layG
  obtain ⟨h1, h2⟩ := calm_layW next f (spanN f.length - 1) D h
  rw [if_pos h1]
  unfold layMid
  split
  · rw [calm_sync h2, if_pos rfl]
    exact calm_layEnd next f (calm_synced h2)
  · exact calm_layEnd next f h2
theorem calm_new (n : Nat) : (DM.new n).calm := ⟨rfl, rfl⟩
theorem calm_crash (D : DM) (keep : List Bool) : (D.crash keep).calm := ⟨rfl, rfl⟩
end Go.Proofs.Ytmfjhejhbomlpaa
