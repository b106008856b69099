/- New: a table without rows. -/
import Derived.Test.YtellmhllgmimiaaT11
namespace Go.Proofs.Ytellmhllgmimiaa
open Go.RowKit Go.Maps
set_option linter.unusedVariables false
set_option linter.unusedSimpArgs false

def newCells (B k : Nat) : Array Value := #[.slice none 0 0, .slice none 0 0, .map (some B), .map (some (B + 1)), .map (if 0 < k then some (B + 3) else none), .map (if 1 < k then some (B + 4) else none), .map (if 2 < k then some (B + 5) else none), .int .i64 0]
structure NewAt (w wr : World) (k : Nat) : Prop where
  size : wr.heap.size = w.heap.size + 3 + k
  below : Below w.heap.size w wr
  f : wr.heap[w.heap.size]? = some (.map #[] 0)
  b : wr.heap[w.heap.size + 1]? = some (.map #[] 0)
  t : wr.heap[w.heap.size + 2]? = some (.cells (newCells w.heap.size k) 61 (0, 0))
  m : ∀ p, p < k → wr.heap[w.heap.size + 3 + p]? = some (.map #[] 0)

theorem NewAt.cells {w wr : World} {k : Nat} (h : NewAt w wr k) (hk : k < 3) : (wr.alloc (.map #[] 0)).cell? ⟨w.heap.size + 2, 4 + k, none⟩ = some (.map none) ∧ (wr.alloc (.map #[] 0)).frozen? ⟨w.heap.size + 2, 4 + k, none⟩ = false := by
  have e : (wr.alloc (.map #[] 0)).heap[w.heap.size + 2]? = some (.cells (newCells w.heap.size k) 61 (0, 0)) := by
    rw [Below.heap_alloc _ _ _ (by have := h.size; omega)]; exact h.t
  unfold World.cell? World.frozen?
  rw [e]
  have : k = 0 ∨ k = 1 ∨ k = 2 := by omega
  rcases this with rfl | rfl | rfl <;> exact ⟨rfl, rfl⟩
theorem NewAt.step {w wr : World} {k : Nat} (h : NewAt w wr k) (hk : k < 3) : NewAt w ((wr.alloc (.map #[] 0)).setCell ⟨w.heap.size + 2, 4 + k, none⟩ (.map (some wr.heap.size))) (k + 1) := by
  have hs := h.size
  have ha : ∀ i, i < wr.heap.size → (wr.alloc (.map #[] 0)).heap[i]? = wr.heap[i]? := fun i hi => Below.heap_alloc _ _ _ hi
  have hset : ∀ i, i ≠ w.heap.size + 2 → ((wr.alloc (.map #[] 0)).setCell ⟨w.heap.size + 2, 4 + k, none⟩ (.map (some wr.heap.size))).heap[i]? = (wr.alloc (.map #[] 0)).heap[i]? := fun i hi => Below.heap_setCell _ _ _ i hi
  refine ⟨by rw [World.size_setCell, World.size_alloc, hs]; omega, (h.below.alloc (by omega) _).setCell (p := ⟨w.heap.size + 2, 4 + k, none⟩) (by simp) _, ?_, ?_, ?_, ?_⟩
  · rw [hset _ (by omega), ha _ (by omega)]; exact h.f
  · rw [hset _ (by omega), ha _ (by omega)]; exact h.b
  · rw [heap_setCell_at ((ha _ (by omega)).trans h.t) (4 + k) _, hs]
    have : k = 0 ∨ k = 1 ∨ k = 2 := by omega
    rcases this with rfl | rfl | rfl <;> rfl
  · intro p hp
    rw [hset _ (by omega)]
    by_cases hpk : p = k
    · subst hpk
      rw [← hs]; exact World.alloc_heap_new wr _
    · rw [ha _ (by omega)]; exact h.m p (by omega)

set_option maxRecDepth 100000 in
set_option maxHeartbeats 2000000 in
theorem new_at (w : World) : Calls Try.prog 8 #[] w fun e w' => e = .returned (.pointer (some ⟨w.heap.size + 2, 0, none⟩)) ∧ NewAt w w' 3 := by
  go_enter Try.func8, Try.ntmps8
  have hmk : ∀ (t : TypeId) (w : World), (Instr.makeMap t none).run Try.prog w = .ok (.map (some w.heap.size)) (w.alloc (.map #[] 0)) := fun _ _ => rfl
  go_wp2_with fail
  have h0 : NewAt w (((w.alloc (.map #[] 0)).alloc (.map #[] 0)).alloc (.cells (newCells w.heap.size 0) 61)) 0 := by
    have e1 : (w.alloc (.map #[] 0)).heap.size = w.heap.size + 1 := World.size_alloc _ _
    have e2 : ((w.alloc (.map #[] 0)).alloc (.map #[] 0)).heap.size = w.heap.size + 2 := by rw [World.size_alloc, e1]
    refine ⟨by rw [World.size_alloc, e2], (((Below.refl _ w).alloc (Nat.le_refl _) _).alloc (by omega) _).alloc (by omega) _, ?_, ?_, ?_, fun p hp => by omega⟩
    · rw [Below.heap_alloc _ _ _ (by omega), Below.heap_alloc _ _ _ (by omega)]; exact World.alloc_heap_new w _
    · rw [Below.heap_alloc _ _ _ (by omega), ← e1]; exact World.alloc_heap_new _ _
    · rw [← e2]; exact World.alloc_heap_new _ _
  rw [show w.heap.size + 1 + 1 = w.heap.size + 2 from rfl]
  go_loopw [7] (fun i wr => ∃ k : Nat, k ≤ 3 ∧ i = .int .i64 k ∧ NewAt w wr k) (fun i _ => 3 - (intOf i).toNat)
  case atStart => exact ⟨0, by omega, rfl, h0⟩
  case round =>
    obtain ⟨k, hk, rfl, hN⟩ := hrel
    have hk' : k = 0 ∨ k = 1 ∨ k = 2 ∨ k = 3 := by omega
    rcases hk' with rfl | rfl | rfl | rfl
    · obtain ⟨c, f⟩ := hN.cells (by decide)
      have HN := Lib.hid (hN.step (by decide)); clear hN h0
      simp only [Nat.reduceAdd] at c f HN
      go_wp2_with fail
      go_roundw
      case rel => exact ⟨1, by omega, rfl, HN.out⟩
      case measure => simp [intOf]
    · obtain ⟨c, f⟩ := hN.cells (by decide)
      have HN := Lib.hid (hN.step (by decide)); clear hN h0
      simp only [Nat.reduceAdd] at c f HN
      go_wp2_with fail
      go_roundw
      case rel => exact ⟨2, by omega, rfl, HN.out⟩
      case measure => simp [intOf]
    · obtain ⟨c, f⟩ := hN.cells (by decide)
      have HN := Lib.hid (hN.step (by decide)); clear hN h0
      simp only [Nat.reduceAdd] at c f HN
      go_wp2_with fail
      go_roundw
      case rel => exact ⟨3, by omega, rfl, HN.out⟩
      case measure => simp [intOf]
    · have HN := Lib.hid hN; clear hN h0
      go_wp2_with fail
      go_ret
      exact ⟨rfl, HN.out⟩
def newD (B : Nat) : TabD := { vr := nilS, vb := nilS, bf := B, bb := B + 1, ba := fun p => B + 3 + p, mb := fun _ => none }
theorem NewAt.isT {Z : Zone} {w w' : World} (h : NewAt w w' 3) (hZ : Z.opn w.heap.size) (hM : ∀ i, w.heap.size ≤ i → Z.M i) : IsT Z w' (w.heap.size + 2) [] (newD w.heap.size) := by
  have hm : ∀ {κ : Type} {enc : κ → Value} {ok : κ → Prop} {b : Nat}, w'.heap[b]? = some (.map #[] 0) → MapAt enc ok w' b (fun _ => none) := by
    intro κ enc ok b hb
    have := MapAt.made (enc := enc) (ok := ok) w'
    obtain ⟨es, c, h1, h2⟩ := this
    rw [World.alloc_heap_new] at h1
    injection h1 with h1; injection h1 with h1 h1'
    subst h1; subst h1'
    exact ⟨_, _, hb, h2⟩
  have hw : ∀ i, w.heap.size ≤ i → (∀ j, Z.W i j) ∧ Z.M i := fun i hi => ⟨fun j => hZ i j hi, hM i hi⟩
  refine { obj := h.t, own := fun j => hZ _ _ (by omega), rows := Sl.nil _ _ _ _, rowsW := fun g hg => (by simp [newD, nilS, Value.ownBlock] at hg), bits := Sl.nil _ _ _ _, bitsW := fun g hg => (by simp [newD, nilS, Value.ownBlock] at hg), find := (hm h.f).congr (fun x _ => rfl), by_ := hm h.b, byOk := ⟨fun x _ hn => absurd rfl hn, fun x _ _ _ => rfl, fun x v _ hv => (by simp [newD] at hv), fun x y v u _ _ hv => (by simp [newD] at hv)⟩, at_ := fun p hp => (hm (h.m p hp)).congr (fun x _ => rfl), findW := hw _ (Nat.le_refl _), byW := hw _ (by simp [newD]), atW := fun p _ => hw _ (by simp [newD]; omega), ne1 := by simp [newD], ne2 := fun p _ => ⟨(by simp [newD]; omega), (by simp [newD]; omega)⟩, ne3 := fun p q _ _ h => (by simp [newD]; omega), oks := by simp, nodup := by simp, long := by simp }
theorem new_any {Z : Zone} {w : World} (hZ : Z.opn w.heap.size) (hM : ∀ i, w.heap.size ≤ i → Z.M i) : Calls Try.prog 8 #[] w fun e w' =>
    e = .returned (.pointer (some ⟨w.heap.size + 2, 0, none⟩)) ∧ IsT Z w' (w.heap.size + 2) [] (newD w.heap.size) ∧ Below w.heap.size w w' ∧ w'.heap.size = w.heap.size + 6 := by
  refine (new_at w).mono ?_
  rintro e w' ⟨rfl, h⟩
  exact ⟨rfl, h.isT hZ hM, h.below, h.size⟩
end Go.Proofs.Ytellmhllgmimiaa
