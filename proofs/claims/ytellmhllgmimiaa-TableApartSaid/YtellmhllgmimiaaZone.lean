/- What a call may write (a zone), what it leaves as it was, and slices that lie in a zone. -/
import Derived.Test.YtellmhllgmimiaaTabP
import Derived.RangeFuncWrites
import Derived.Maps.AppendAt
namespace Go.Proofs.Ytellmhllgmimiaa
open Go.RowKit Go.ChangeMaps
set_option linter.unusedVariables false

/-- which cells may be written, which are read, which blocks that are no cells may turn -/
structure Zone where
  W : Nat → Nat → Prop
  R : Nat → Nat → Prop
  M : Nat → Prop
  sub : ∀ i j, W i j → R i j

/-- whatever comes anew is in the zone -/
def Zone.opn (Z : Zone) (n : Nat) : Prop := ∀ i j, n ≤ i → Z.W i j
theorem Zone.opn.mono {Z : Zone} {n m : Nat} (h : Z.opn n) (hm : n ≤ m) : Z.opn m := fun i j hi => h i j (Nat.le_trans hm hi)

structure Fr (Z : Zone) (w w' : World) : Prop where
  os : w'.os = w.os
  tape : w'.tape = w.tape
  output : w'.output = w.output
  size : w.heap.size ≤ w'.heap.size
  block : ∀ i, i < w.heap.size → (∀ j, ¬ Z.W i j) → w'.heap[i]? = w.heap[i]?
  cells : ∀ i cur e fz, w.heap[i]? = some (.cells cur e fz) → ∃ cur', w'.heap[i]? = some (.cells cur' e fz) ∧ cur'.size = cur.size ∧ ∀ j, ¬ Z.W i j → cur'[j]? = cur[j]?
  oth : ∀ i o, w.heap[i]? = some o → o.isCells = false → Z.M i ∨ w'.heap[i]? = some o

section
variable {Z : Zone} {w w' w'' : World}
theorem Fr.refl (Z : Zone) (w : World) : Fr Z w w := ⟨rfl, rfl, rfl, Nat.le_refl _, fun _ _ _ => rfl, fun i cur e fz h => ⟨cur, h, rfl, fun _ _ => rfl⟩, fun i o h _ => .inr h⟩
theorem Fr.trans (h : Fr Z w w') (k : Fr Z w' w'') : Fr Z w w'' where
  os := k.os.trans h.os
  tape := k.tape.trans h.tape
  output := k.output.trans h.output
  size := Nat.le_trans h.size k.size
  block i hi hn := (k.block i (Nat.lt_of_lt_of_le hi h.size) hn).trans (h.block i hi hn)
  cells i cur e fz hb := by
    obtain ⟨c1, h1, h2, h3⟩ := h.cells i cur e fz hb
    obtain ⟨c2, k1, k2, k3⟩ := k.cells i c1 e fz h1
    exact ⟨c2, k1, k2.trans h2, fun j hj => (k3 j hj).trans (h3 j hj)⟩
  oth i o hb ho := by
    rcases h.oth i o hb ho with hm | hm
    · exact .inl hm
    · exact k.oth i o hm ho
theorem Fr.drew (h : Fr Z w w') : Fr Z w w'.drew := h.trans ⟨rfl, rfl, rfl, Nat.le_refl _, fun _ _ _ => rfl, fun i cur e fz h => ⟨cur, h, rfl, fun _ _ => rfl⟩, fun i o h _ => .inr h⟩
/-- nothing that lay there has turned -/
theorem Fr.of_below (h : Below w.heap.size w w') : Fr Z w w' where
  os := h.os
  tape := h.tape
  output := h.output
  size := h.size
  block i hi _ := h.block i hi
  cells i cur e fz hb := ⟨cur, (h.block i (Array.getElem?_eq_some_iff.1 hb).1).trans hb, rfl, fun _ _ => rfl⟩
  oth i o hb _ := .inr ((h.block i (Array.getElem?_eq_some_iff.1 hb).1).trans hb)
theorem Fr.alloc (h : Fr Z w w') (o : Obj) : Fr Z w (w'.alloc o) := h.trans (.of_below ((Below.refl _ _).alloc (Nat.le_refl _) o))
theorem Fr.then_below (h : Fr Z w w') (k : Below w'.heap.size w' w'') : Fr Z w w'' := h.trans (.of_below k)
theorem Fr.mono {Z' : Zone} (h : Fr Z w w') (hW : ∀ i j, i < w.heap.size → Z.W i j → Z'.W i j) (hM : ∀ i, i < w.heap.size → Z.M i → Z'.M i) : Fr Z' w w' where
  os := h.os
  tape := h.tape
  output := h.output
  size := h.size
  block i hi hn := h.block i hi (fun j hj => hn j (hW i j hi hj))
  cells i cur e fz hb := by
    obtain ⟨c1, h1, h2, h3⟩ := h.cells i cur e fz hb
    exact ⟨c1, h1, h2, fun j hj => h3 j (fun hw => hj (hW i j (Array.getElem?_eq_some_iff.1 hb).1 hw))⟩
  oth i o hb ho := (h.oth i o hb ho).imp (hM i (Array.getElem?_eq_some_iff.1 hb).1) id
/-- where the zone begins, what lies below is as it was -/
theorem Fr.below {B : Nat} (h : Fr Z w w') (hB : B ≤ w.heap.size) (hZ : ∀ i j, Z.W i j → B ≤ i) : Below B w w' :=
  ⟨h.os, h.tape, h.output, h.size, fun k hk => h.block k (by omega) (fun j hj => by have := hZ k j hj; omega)⟩
theorem Fr.keeps {B : Nat} (h : Fr Z w w') (hM : ∀ i, Z.M i → i < B) : KeepsFrom B w w' :=
  ⟨h.size, fun k o hk hb ho => (h.oth k o hb ho).resolve_left (fun hm => by have := hM k hm; omega)⟩
theorem Fr.of_row {g : Nat} {cur cur' : Array Value} {e : TypeId} {fz : Nat × Nat} (hg : w.heap[g]? = some (.cells cur e fz)) (hg' : w'.heap[g]? = some (.cells cur' e fz)) (hs : cur'.size = cur.size)
    (hj : ∀ j, ¬ Z.W g j → cur'[j]? = cur[j]?) (hgr : w.grownBy w' (some g)) (hW : ∃ j, Z.W g j) : Fr Z w w' where
  os := hgr.os
  tape := hgr.tape
  output := hgr.output
  size := hgr.size
  block i hi hn := hgr.block i hi (fun e => by injection e with e; subst e; obtain ⟨j, hj⟩ := hW; exact hn j hj)
  cells i c e' fz' hb := by
    by_cases hi : i = g
    · subst hi
      rw [hg] at hb
      injection hb with hb; injection hb with h1 h2 h3
      subst h1; subst h2; subst h3
      exact ⟨cur', hg', hs, hj⟩
    · exact ⟨c, (hgr.block i (Array.getElem?_eq_some_iff.1 hb).1 (fun e => hi (by injection e))).trans hb, rfl, fun _ _ => rfl⟩
  oth i o hb ho := by
    by_cases hi : i = g
    · subst hi
      rw [hg] at hb
      injection hb with hb; subst hb; simp [Obj.isCells] at ho
    · exact .inr ((hgr.block i (Array.getElem?_eq_some_iff.1 hb).1 (fun e => hi (by injection e))).trans hb)
theorem Fr.setCell (h : Fr Z w w') {a : Addr} {v : Value} (hW : Z.W a.block a.off) : Fr Z w (w'.setCell a v) := by
  refine h.trans ?_
  refine ⟨rfl, rfl, rfl, by simp, ?_, ?_, ?_⟩
  · intro i hi hn
    exact Below.heap_setCell w' a v i (fun e => by subst e; exact hn _ hW)
  · intro i cur e fz hb
    by_cases hi : i = a.block
    · subst hi
      obtain ⟨hlt, hk⟩ := Array.getElem?_eq_some_iff.1 hb
      refine ⟨if a.spot.isSome then cur else cur.setIfInBounds a.off v, ?_, by split <;> simp, ?_⟩
      · show (w'.heap.modify a.block _)[a.block]? = _
        rw [Array.getElem?_eq_getElem (by rw [Array.size_modify]; exact hlt), Array.getElem_modify_self, hk]
      · intro j hj
        split
        · rfl
        · rw [Array.getElem?_setIfInBounds]
          split
          · rename_i h'; subst h'; exact absurd hW hj
          · rfl
    · exact ⟨cur, (Below.heap_setCell w' a v i hi).trans hb, rfl, fun _ _ => rfl⟩
  · intro i o hb ho
    exact .inr ((KeepsOthers.setCell w' a v).same i o hb ho)
theorem Fr.turned {b : Nat} (h : w.mapTurned w' b) (hW : ∃ j, Z.W b j) (hM : Z.M b) : Fr Z w w' := by
  have hg := h.grown
  obtain ⟨es, clock, es', clock', hb, rfl⟩ := h
  refine ⟨hg.os, hg.tape, hg.output, hg.size, ?_, ?_, ?_⟩
  · intro i hi hn
    exact hg.block i hi (fun e => by injection e with e; subst e; obtain ⟨j, hj⟩ := hW; exact hn j hj)
  · intro i c e fz hb'
    have hi : i ≠ b := fun e => by subst e; rw [hb] at hb'; injection hb' with hb'; cases hb'
    exact ⟨c, (hg.block i (Array.getElem?_eq_some_iff.1 hb').1 (fun e => hi (by injection e))).trans hb', rfl, fun _ _ => rfl⟩
  · intro i o hb' ho
    by_cases hi : i = b
    · subst hi; exact .inl hM
    · exact .inr ((hg.block i (Array.getElem?_eq_some_iff.1 hb').1 (fun e => hi (by injection e))).trans hb')
end

/-- a slice of n elements that lies in the zone: its cells are xs; the room behind them may be written -/
def Sl (Z : Zone) (w : World) (e size : Nat) (v : Value) (n : Nat) (xs : List Value) : Prop :=
  xs.length = n * size ∧
  ((v = .slice none 0 0 ∧ n = 0) ∨
   ∃ g cap cur, v = .slice (some ⟨g, 0, none⟩) n cap ∧ w.heap[g]? = some (.cells cur e (0, 0)) ∧ n ≤ cap ∧ cap ≤ maxLen ∧ cap * size ≤ cur.size ∧ cur.toList.take (n * size) = xs ∧
     (∀ j, n * size ≤ j → j < cap * size → Z.W g j) ∧ (∀ j, j < n * size → Z.R g j))
/-- .. and all of its block is the zone's -/
def Whole (Z : Zone) (v : Value) : Prop := ∀ g, v.ownBlock = some g → ∀ j, Z.W g j

section
variable {Z V : Zone} {w w' : World} {e size n : Nat} {v : Value} {xs : List Value}
theorem Sl.nil (Z : Zone) (w : World) (e size : Nat) : Sl Z w e size (.slice none 0 0) 0 [] := ⟨by simp, .inl ⟨rfl, rfl⟩⟩
theorem Sl.lt (h : Sl Z w e size v n xs) : ∀ k, v.ownBlock = some k → k < w.heap.size ∧ ∃ cur fz, w.heap[k]? = some (.cells cur e fz) := by
  intro k hk
  rcases h.2 with ⟨rfl, _⟩ | ⟨g, cap, cur, rfl, hg, _⟩
  · simp [Value.ownBlock] at hk
  · simp [Value.ownBlock] at hk
    subst hk
    exact ⟨(Array.getElem?_eq_some_iff.1 hg).1, cur, _, hg⟩
/-- it stays, where what is written is apart from what is read of it, or of its own block nothing turns -/
theorem Sl.stay (h : Sl Z w e size v n xs) (hf : Fr V w w') (hd : ∀ g j, v.ownBlock = some g → j < n * size → ¬ V.W g j) : Sl Z w' e size v n xs := by
  refine ⟨h.1, ?_⟩
  rcases h.2 with h' | ⟨g, cap, cur, rfl, hg, h1, h2, h3, h4, h5⟩
  · exact .inl h'
  · obtain ⟨cur', k1, k2, k3⟩ := hf.cells g cur e _ hg
    refine .inr ⟨g, cap, cur', rfl, k1, h1, h2, by rw [k2]; exact h3, ?_, h5⟩
    rw [← h4]
    apply List.ext_getElem?
    intro j
    simp only [List.getElem?_take, Array.getElem?_toList]
    split
    · rename_i hj; exact k3 j (hd g j rfl hj)
    · rfl
theorem Sl.stayB (h : Sl Z w e size v n xs) (hb : ∀ g, v.ownBlock = some g → w'.heap[g]? = w.heap[g]?) : Sl Z w' e size v n xs := by
  refine ⟨h.1, ?_⟩
  rcases h.2 with h' | ⟨g, cap, cur, rfl, hg, h1⟩
  · exact .inl h'
  · exact .inr ⟨g, cap, cur, rfl, (hb g rfl).trans hg, h1⟩
theorem Sl.below (h : Sl Z w e size v n xs) (hb : Below w.heap.size w w') : Sl Z w' e size v n xs := h.stayB (fun g hg => hb.block g (h.lt g hg).1)
theorem Sl.cells (h : Sl Z w e size v n xs) {g : Nat} (hv : v.ownBlock = some g) (j : Nat) (u : Value) (hj : xs[j]? = some u) : w.cell? ⟨g, j, none⟩ = some u := by
  rcases h.2 with ⟨rfl, _⟩ | ⟨g', cap, cur, rfl, hg, h1, h2, h3, h4, h5⟩
  · simp [Value.ownBlock] at hv
  · simp [Value.ownBlock] at hv
    subst hv
    unfold World.cell?
    rw [hg]
    rw [← h4, List.getElem?_take] at hj
    split at hj
    · simpa using hj
    · cases hj
theorem Sl.form (h : Sl Z w e size v n xs) : (v = .slice none 0 0 ∧ n = 0) ∨ ∃ g cap, v = .slice (some ⟨g, 0, none⟩) n cap ∧ n ≤ cap ∧ cap ≤ maxLen ∧ g < w.heap.size := by
  rcases h.2 with h' | ⟨g, cap, cur, rfl, hg, h1, h2, _⟩
  · exact .inl h'
  · exact .inr ⟨g, cap, rfl, h1, h2, (Array.getElem?_eq_some_iff.1 hg).1⟩
theorem Sl.frozen (h : Sl Z w e size v n xs) {g : Nat} (hv : v.ownBlock = some g) (j : Nat) : w.frozen? ⟨g, j, none⟩ = false := by
  rcases h.2 with ⟨rfl, _⟩ | ⟨g', cap, cur, rfl, hg, _⟩
  · simp [Value.ownBlock] at hv
  · simp [Value.ownBlock] at hv
    subst hv
    unfold World.frozen?
    rw [hg]
    simp

variable {P : Program}
/-- append: in the same block or in the one that comes next -/
theorem Sl.append (h : Sl Z w e size v n xs) (hZ : Z.opn w.heap.size) (t ty : TypeId) (i : TypeInfo) (z : Value) (bytes : Nat) (ht : P.underlying t = some (.slice e)) (hi : P.info? e = some i) (hz : i.zero = some z)
    (hsize : i.size = size) (hby : i.bytes = bytes) (hzs : z.cells.size = size) (hsz : 0 < size)
    (a : Addr) (m c : Nat) (news : List Value) (hl : news.length = m * size) (hnews : ∀ j u, news[j]? = some u → w.cell? (a.add j) = some u) (h1 : ∀ u ∈ news, u.oneCell' = true)
    (hm : 0 < m) (h63 : n + m ≤ maxLen) (hbytes : (n + m) * bytes ≤ 140737488355328) :
    ∃ v' w', (Builtin.append_ #[t, t] ty #[v, .slice (some a) m c]).run P w = .ok v' w' ∧ Sl Z w' e size v' (n + m) (xs ++ news) ∧ Fr Z w w' ∧ w.grownBy w' v.ownBlock ∧
      ((v'.ownBlock = v.ownBlock ∧ ∃ g, v.ownBlock = some g) ∨ v'.ownBlock = some w.heap.size ∧ Below w.heap.size w w') := by
  subst hsize
  subst hby
  have hsmall : n + m ≤ 9223372036854775807 := by simp only [maxLen] at h63; omega
  have hlen : (xs ++ news).length = (n + m) * i.size := by rw [List.length_append, h.1, hl, Nat.add_mul]
  have grown : ∀ (old : Nat), old < n + m → Sl Z (w.drew.alloc (.cells (xs.toArray ++ news.toArray ++ Builtin.zeroCells z.cells (grownCap w (n + m) old e - (n + m))) e)) e i.size
        (.slice (some ⟨w.heap.size, 0, none⟩) (n + m) (grownCap w (n + m) old e)) (n + m) (xs ++ news) := by
    intro old ho
    have hge := grownCap_ge w (n + m) old e
    have hcm : grownCap w (n + m) old e ≤ maxLen := grownCap_le_maxLen w (n + m) old e h63
    refine ⟨hlen, .inr ⟨w.heap.size, _, _, rfl, heap_alloc_new w.drew _, hge, hcm, ?_, ?_, fun j _ _ => hZ _ _ (Nat.le_refl _), fun j _ => Z.sub _ _ (hZ _ _ (Nat.le_refl _))⟩⟩
    · simp only [Array.size_append, List.size_toArray, size_zeroCells, hzs, h.1, hl, ← Nat.add_mul]
      refine Nat.mul_le_mul_right _ ?_
      omega
    · simp only [Array.toList_append, List.append_assoc]
      rw [← List.append_assoc, ← hlen]
      exact List.take_left
  have hbel : ∀ o, Below w.heap.size w (w.drew.alloc o) := fun o => ((Below.refl _ w).drew).alloc (Nat.le_refl _) o
  have hgr : ∀ o r, w.grownBy (w.drew.alloc o) r := fun o r => ⟨rfl, rfl, rfl, by simp, fun k hk _ => Below.heap_alloc w.drew _ k hk⟩
  rcases h.2 with ⟨rfl, rfl⟩ | ⟨g, cap, cur, rfl, hg, hnc, hcm, hcs, htake, hW, hR⟩
  · have hx : xs = [] := List.eq_nil_of_length_eq_zero (by simpa using h.1)
    subst hx
    have hr := run_append_nil (P := P) w t ty e i z ht hi hz a m c news hl hnews (by omega) (by omega) (by have hb := hbytes; simp only [Nat.zero_add] at hb; omega)
    have hgw := grown 0 (by omega)
    simp only [Nat.zero_add, List.nil_append, Array.empty_append] at hgw ⊢
    exact ⟨_, _, hr, hgw, .of_below (hbel _), hgr _ _, .inr ⟨rfl, hbel _⟩⟩
  · by_cases hroom : n + m ≤ cap
    · have hfit : n * i.size + news.length ≤ cur.size := by
        rw [hl, ← Nat.add_mul]; exact Nat.le_trans (Nat.mul_le_mul_right _ hroom) hcs
      have hr := run_append_room (P := P) w t ty e i ht hi g n cap cur hg a m c news hl hnews h1 hroom hfit
      have hmul : (n + m) * i.size ≤ cap * i.size := Nat.mul_le_mul_right _ hroom
      have hmm : (n + m) * i.size = n * i.size + m * i.size := Nat.add_mul _ _ _
      have hnl : (n * i.size) = (cur.toList.take (n * i.size)).length := by rw [htake]; exact h.1.symm
      have hW' : ∀ j, n * i.size ≤ j → j < (n + m) * i.size → Z.W g j := fun j h1 h2 => hW j h1 (by omega)
      have hgrw : w.grownBy (w.setRow g (cur.toList.take (n * i.size) ++ news ++ cur.toList.drop (n * i.size + news.length)).toArray) (some g) :=
        ⟨rfl, rfl, rfl, by simp, fun k _ hk => setRow_other w g k _ (fun e => hk (by rw [e]))⟩
      have hnew := setRow_heap w g cur (cur.toList.take (n * i.size) ++ news ++ cur.toList.drop (n * i.size + news.length)).toArray e (0, 0) hg
      refine ⟨_, _, hr, ⟨hlen, .inr ⟨g, cap, _, rfl, hnew, hroom, hcm, ?_, ?_, fun j h1 h2 => hW j (by omega) h2, ?_⟩⟩, ?_, hgrw, .inl ⟨rfl, g, rfl⟩⟩
      · simp only [List.size_toArray, List.length_append, List.length_take, List.length_drop, Array.length_toList]
        omega
      · simp only [htake]
        rw [← hlen]
        exact List.take_left
      · intro j hj
        by_cases hj' : j < n * i.size
        · exact hR j hj'
        · exact Z.sub _ _ (hW' j (by omega) hj)
      · refine Fr.of_row hg hnew ?_ ?_ hgrw ⟨n * i.size, hW' _ (Nat.le_refl _) (by rw [hmm]; have := Nat.mul_pos hm hsz; omega)⟩
        · simp only [List.size_toArray, List.length_append, List.length_take, List.length_drop, Array.length_toList]
          omega
        · intro j hj
          have hout : j < n * i.size ∨ (n + m) * i.size ≤ j := by
            by_cases h' : j < n * i.size
            · exact .inl h'
            · by_cases h'' : j < (n + m) * i.size
              · exact absurd (hW' j (by omega) h'') hj
              · exact .inr (by omega)
          simp only [List.getElem?_toArray]
          rcases hout with h' | h'
          · rw [List.append_assoc, List.getElem?_append_left (by omega), List.getElem?_take, if_pos h', Array.getElem?_toList]
          · rw [List.getElem?_append_right (by rw [List.length_append, ← hnl, hl]; omega), List.length_append, ← hnl, hl, List.getElem?_drop, Array.getElem?_toList]
            congr 1; omega
    · have holds : ∀ j u, xs[j]? = some u → w.cell? ((⟨g, 0, none⟩ : Addr).add j) = some u := fun j u hj => by
        have := h.cells (g := g) rfl j u hj
        rw [← this]; unfold Addr.add; split <;> simp_all
      have hr := run_append_grow (P := P) w t ty e i z ht hi hz ⟨g, 0, none⟩ n cap xs h.1 holds a m c news hl hnews (by omega) (by omega) (growslice_fits (by omega) hbytes)
      exact ⟨_, _, hr, grown cap (by omega), .of_below (hbel _), hgr _ _, .inr ⟨rfl, hbel _⟩⟩
end
end Go.Proofs.Ytellmhllgmimiaa
