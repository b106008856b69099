/- The program's table as it lies in memory. -/
import Derived.Test.YtellmhllgmimiaaRows
import Derived.Test.YtellmhllgmimiaaZone
import Derived.DeepKeys4
import Derived.WalkKit
import Derived.WalkSpells
import Derived.WalkLawsBesides
import Derived.WalkMore
import Derived.ScopeJumps
import Derived.LoopTactic
import Derived.Lib.Hide
import Derived.Deep.DeepMust
import Derived.Deep.RegionWith
import Derived.Deep.LoopGhost
import Derived.Deep.QuietTactic
import Derived.BigQuiet
import Derived.Deep.RegionHeld3
namespace Go.Proofs.Ytellmhllgmimiaa
open Go.RowKit Go.Maps
set_option linter.unusedVariables false

theorem Try.laidOut : laidOutB Try.prog = true := by kernel_rfl
theorem Try.rowRow : (25 : TypeId) < Try.prog.types.size := of_decide_eq_true (by kernel_rfl)
theorem Try.wideRow : (match Try.prog.underlying 25 with | some (.array _ _) | some (.struct _) => true | _ => false) = true := by rw [Try.underlying25]
theorem Try.lawRow : WideMaps.KeyLaw Try.prog 25 := deep_law_laid Try.laidOut (m := 2) (by omega) Try.rowRow (by kernel_rfl) Try.wideRow
theorem wf_u32 {x : Int} (h : is32 x) : (Lit.int .u32 x).wf = true := by
  obtain ⟨h1, h2⟩ := h
  have e1 : IntKind.u32.min = 0 := by decide
  have e2 : IntKind.u32.max = 4294967295 := by decide
  simp only [Lit.wf, e1, e2, Bool.and_eq_true, decide_eq_true_eq]
  exact ⟨h1, h2⟩
theorem Try.keyRow (r : R3) (h : rok r) : ∃ l, keyOf Try.prog 25 (rv r) = some l := by
  obtain ⟨a, b, c⟩ := r
  obtain ⟨ha, hb, hc⟩ := h
  simp only [is32] at ha hb hc
  have h3 : Try.prog.cellsOf 25 = 3 := by kernel_rfl
  have h4 : Try.prog.cellsOf 23 = 1 := by kernel_rfl
  have hf : (rv (a, b, c)).formed Try.prog 25 = true := by
    simp [rv, Value.formed, Try.underlying25, h3]
  have hk : Try.prog.keyType 25 = true := by kernel_rfl
  have wf : ∀ x, 0 ≤ x → x ≤ 4294967295 → (Lit.int .u32 x).wf = true := fun x h1 h2 => wf_u32 ⟨h1, h2⟩
  have h1 : Try.prog.keyLits (Try.prog.types.size + 1) 25 [.int .u32 a, .int .u32 b, .int .u32 c] = some [.int .u32 a, .int .u32 b, .int .u32 c] := by
    obtain ⟨m, hm⟩ : ∃ m, Try.prog.types.size = m + 1 := ⟨_, (Nat.succ_pred_eq_of_pos (Nat.lt_of_le_of_lt (Nat.zero_le _) Try.rowRow)).symm⟩
    rw [hm]
    simp [Program.keyLits, Try.underlying25, Try.underlying23, h3, h4, List.range, List.range.loop, wf a ha.1 ha.2, wf b hb.1 hb.2, wf c hc.1 hc.2]
  refine ⟨.string (keyBytes [.int .u32 a, .int .u32 b, .int .u32 c]), ?_⟩
  rw [keyOf, Try.underlying25]
  simp only [hf, hk, Bool.and_self, if_true]
  show Option.map _ (Try.prog.keyLits _ _ [.int .u32 a, .int .u32 b, .int .u32 c]) = _
  rw [h1]; rfl
def uv (x : Int) : Value := .int .u32 x
theorem kysR : Kys Try.prog 25 rv rok := ⟨Keyed.of_law Try.lawRow, Try.keyRow, fun _ _ _ _ h => rv_inj h⟩
theorem kysU : Kys Try.prog 23 uv is32 := ⟨int_keyed Try.underlying23, fun x hx => ⟨_, keyOf_int_mk Try.underlying23 (wf_u32 hx)⟩, fun x y _ _ h => by simpa [uv] using h⟩

/-- how often a number stands at a place, as its map has it -/
def cntF (T : TS) (p : Nat) : Int → Option Value := fun x => if cnt T p x = 0 then none else some (.int .i64 (cnt T p x : Nat))
def idxF (T : TS) : R3 → Option Value := fun r => (idx T r).map fun n => .int .i64 (n : Nat)

/-- what a table's blocks are -/
structure TabD where
  vr : Value
  vb : Value
  bf : Nat
  bb : Nat
  ba : Nat → Nat
  mb : R3 → Option Value

def TabD.cells (D : TabD) (l : Int) : Array Value := #[D.vr, D.vb, .map (some D.bf), .map (some D.bb), .map (some (D.ba 0)), .map (some (D.ba 1)), .map (some (D.ba 2)), .int .i64 l]

/-- the lists of rows by looks: each list once, in a block of its own -/
structure ByG (Z : Zone) (w : World) (ls : R3 → List Nat) (mb : R3 → Option Value) : Prop where
  look : ∀ x, rok x → mb x ≠ none → look2 x = true
  non : ∀ x, rok x → look2 x = true → mb x = Option.none → ls x = []
  has : ∀ (x : R3) (v : Value), rok x → mb x = Option.some v → ls x ≠ [] ∧ Sl Z w 3 1 v (ls x).length (ics (ls x))
  apart : ∀ (x y : R3) (v u : Value), rok x → rok y → mb x = Option.some v → mb y = Option.some u → x ≠ y → v.ownBlock ≠ u.ownBlock

/-- the table T lies at block tb; L is its count of rows that are not out, fa what its counts say -/
structure IsG (Z : Zone) (w : World) (tb : Nat) (T : TS) (ff : R3 → Option Value) (ls : R3 → List Nat) (L : Int) (fa : Nat → Int → Option Value) (D : TabD) : Prop where
  obj : w.heap[tb]? = some (.cells (D.cells L) 61 (0, 0))
  own : ∀ j, Z.W tb j
  rows : Sl Z w 25 3 D.vr T.length (rcs T)
  rowsW : Whole Z D.vr
  bits : Sl Z w 32 1 D.vb T.length (bcs T)
  bitsW : Whole Z D.vb
  find : MapAt rv rok w D.bf ff
  by_ : MapAt rv rok w D.bb D.mb
  byOk : ByG Z w ls D.mb
  at_ : ∀ p, p < 3 → MapAt uv is32 w (D.ba p) (fa p)
  findW : (∀ j, Z.W D.bf j) ∧ Z.M D.bf
  byW : (∀ j, Z.W D.bb j) ∧ Z.M D.bb
  atW : ∀ p, p < 3 → (∀ j, Z.W (D.ba p) j) ∧ Z.M (D.ba p)
  ne1 : D.bf ≠ D.bb
  ne2 : ∀ p, p < 3 → D.bf ≠ D.ba p ∧ D.bb ≠ D.ba p
  ne3 : ∀ p q, p < 3 → q < 3 → p ≠ q → D.ba p ≠ D.ba q
  oks : ∀ y ∈ T, yok y
  nodup : (T.map (·.1)).Nodup
  long : T.length ≤ 1000000

/-- the table T lies at block tb -/
abbrev IsT (Z : Zone) (w : World) (tb : Nat) (T : TS) (D : TabD) : Prop := IsG Z w tb T (idxF T) (lst T) (live T) (cntF T) D
def IsTab (Z : Zone) (w : World) (tb : Nat) (T : TS) : Prop := ∃ D, IsT Z w tb T D

section
variable {Z V : Zone} {w w' : World} {tb : Nat} {T : TS} {D : TabD} {ff : R3 → Option Value} {ls : R3 → List Nat} {L : Int} {fa : Nat → Int → Option Value}
theorem ByG.stay {ls : R3 → List Nat} {mb : R3 → Option Value} (h : ByG Z w ls mb) (hf : Fr V w w') (hd : ∀ i j, Z.R i j → ¬ V.W i j) : ByG Z w' ls mb :=
  ⟨h.look, h.non, fun x v hx hv => ⟨(h.has x v hx hv).1, (h.has x v hx hv).2.stay hf (fun g j hg hj => hd g j (by
    rcases (h.has x v hx hv).2.2 with ⟨rfl, _⟩ | ⟨g', cap, cur, rfl, _, _, _, _, _, _, hR⟩
    · simp [Value.ownBlock] at hg
    · simp [Value.ownBlock] at hg; subst hg; exact hR j hj))⟩, h.apart⟩
theorem ByG.stayB {ls : R3 → List Nat} {mb : R3 → Option Value} (h : ByG Z w ls mb) (hb : ∀ (g : Nat) cur fz, w.heap[g]? = some (.cells cur 3 fz) → w'.heap[g]? = w.heap[g]?) : ByG Z w' ls mb :=
  ⟨h.look, h.non, fun x v hx hv => ⟨(h.has x v hx hv).1, (h.has x v hx hv).2.stayB (fun g hg => by
    obtain ⟨_, cur, fz, h1⟩ := (h.has x v hx hv).2.lt g hg
    exact hb g cur fz h1)⟩, h.apart⟩
theorem block_of {i : Nat} {o : Obj} (hf : Fr V w w') (hi : w.heap[i]? = some o) (hd : ∀ j, ¬ V.W i j) : w'.heap[i]? = w.heap[i]? := hf.block i (Array.getElem?_eq_some_iff.1 hi).1 hd
theorem MapAt.heap {κ : Type} {enc : κ → Value} {ok : κ → Prop} {b : Nat} {f : κ → Option Value} (h : MapAt enc ok w b f) : ∃ es c, w.heap[b]? = some (.map es c) := by
  obtain ⟨es, c, h, _⟩ := h; exact ⟨es, c, h⟩
/-- a table stays where nothing that is read of it is written -/
theorem IsG.stay (h : IsG Z w tb T ff ls L fa D) (hf : Fr V w w') (hd : ∀ i j, Z.R i j → ¬ V.W i j) : IsG Z w' tb T ff ls L fa D := by
  have hW : ∀ i j, Z.W i j → ¬ V.W i j := fun i j hw => hd i j (Z.sub i j hw)
  have hm : ∀ {κ : Type} {enc : κ → Value} {ok : κ → Prop} {b : Nat} {f : κ → Option Value}, MapAt enc ok w b f → (∀ j, Z.W b j) → MapAt enc ok w' b f := by
    intro κ enc ok b f hm hw
    obtain ⟨es, c, hb⟩ := hm.heap
    exact hm.stay (block_of hf hb (fun j => hW _ _ (hw j)))
  exact { h with
    obj := (block_of hf h.obj (fun j => hW _ _ (h.own j))).trans h.obj
    rows := h.rows.stay hf (fun g j hg _ => hW g j (h.rowsW g hg j))
    bits := h.bits.stay hf (fun g j hg _ => hW g j (h.bitsW g hg j))
    find := hm h.find h.findW.1
    by_ := hm h.by_ h.byW.1
    byOk := h.byOk.stay hf hd
    at_ := fun p hp => hm (h.at_ p hp) (h.atW p hp).1 }
theorem IsG.below (h : IsG Z w tb T ff ls L fa D) (hb : Below w.heap.size w w') : IsG Z w' tb T ff ls L fa D := by
  have hblk : ∀ i o, w.heap[i]? = some o → w'.heap[i]? = w.heap[i]? := fun i o hi => hb.block i (Array.getElem?_eq_some_iff.1 hi).1
  have hm : ∀ {κ : Type} {enc : κ → Value} {ok : κ → Prop} {b : Nat} {f : κ → Option Value}, MapAt enc ok w b f → MapAt enc ok w' b f := by
    intro κ enc ok b f hm
    obtain ⟨es, c, hb⟩ := hm.heap
    exact hm.stay (hblk _ _ hb)
  exact { h with
    obj := (hblk _ _ h.obj).trans h.obj
    rows := h.rows.below hb
    bits := h.bits.below hb
    find := hm h.find
    by_ := hm h.by_
    byOk := h.byOk.stayB (fun g cur fz hg => hblk _ _ hg)
    at_ := fun p hp => hm (h.at_ p hp) }
theorem IsG.cell (h : IsG Z w tb T ff ls L fa D) (j : Nat) (v : Value) (hj : (D.cells L)[j]? = some v) : w.cell? ⟨tb, j, none⟩ = some v := by
  unfold World.cell?
  rw [h.obj]
  simpa using hj
theorem IsG.c0 (h : IsG Z w tb T ff ls L fa D) : w.cell? ⟨tb, 0, none⟩ = some D.vr := h.cell 0 _ rfl
theorem IsG.c1 (h : IsG Z w tb T ff ls L fa D) : w.cell? ⟨tb, 1, none⟩ = some D.vb := h.cell 1 _ rfl
theorem IsG.c2 (h : IsG Z w tb T ff ls L fa D) : w.cell? ⟨tb, 2, none⟩ = some (.map (some D.bf)) := h.cell 2 _ rfl
theorem IsG.c3 (h : IsG Z w tb T ff ls L fa D) : w.cell? ⟨tb, 3, none⟩ = some (.map (some D.bb)) := h.cell 3 _ rfl
theorem IsG.ca (h : IsG Z w tb T ff ls L fa D) (p : Nat) (hp : p < 3) : w.cell? ⟨tb, 4 + p, none⟩ = some (.map (some (D.ba p))) := by
  have : p = 0 ∨ p = 1 ∨ p = 2 := by omega
  rcases this with rfl | rfl | rfl
  · exact h.cell 4 _ rfl
  · exact h.cell 5 _ rfl
  · exact h.cell 6 _ rfl
theorem IsG.c7 (h : IsG Z w tb T ff ls L fa D) : w.cell? ⟨tb, 7, none⟩ = some (.int .i64 L) := h.cell 7 _ rfl
theorem IsG.frozen (h : IsG Z w tb T ff ls L fa D) (j : Nat) : w.frozen? ⟨tb, j, none⟩ = false := by
  unfold World.frozen?
  rw [h.obj]
  simp
theorem IsG.lt (h : IsG Z w tb T ff ls L fa D) : tb < w.heap.size := (Array.getElem?_eq_some_iff.1 h.obj).1
/-- a table's zone, as a caller sees it who has made blocks from N to N' since -/
def Zone.gap (Z : Zone) (N N' : Nat) : Zone where
  W i j := (Z.W i j ∧ i < N) ∨ N' ≤ i
  R i j := (Z.R i j ∧ i < N) ∨ N' ≤ i
  M i := Z.M i ∧ i < N
  sub i j h := h.imp (fun h => ⟨Z.sub i j h.1, h.2⟩) id
theorem Zone.gap_opn (Z : Zone) (N N' : Nat) : (Z.gap N N').opn N' := fun i j h => .inr h
theorem Sl.gap {e size n : Nat} {v : Value} {xs : List Value} (h : Sl Z w e size v n xs) {N N' : Nat} (hN : w.heap.size ≤ N) : Sl (Z.gap N N') w e size v n xs := by
  refine ⟨h.1, ?_⟩
  rcases h.2 with h' | ⟨g, cap, cur, rfl, hg, h1, h2, h3, h4, h5, h6⟩
  · exact .inl h'
  · have hlt := (Array.getElem?_eq_some_iff.1 hg).1
    exact .inr ⟨g, cap, cur, rfl, hg, h1, h2, h3, h4, fun j a b => .inl ⟨h5 j a b, by omega⟩, fun j a => .inl ⟨h6 j a, by omega⟩⟩
theorem IsG.gap (h : IsG Z w tb T ff ls L fa D) {N N' : Nat} (hN : w.heap.size ≤ N) : IsG (Z.gap N N') w tb T ff ls L fa D :=
  { h with
    own := fun j => .inl ⟨h.own j, by have := h.lt; omega⟩
    rows := h.rows.gap hN
    rowsW := fun g hg j => .inl ⟨h.rowsW g hg j, by have := (h.rows.lt g hg).1; omega⟩
    bits := h.bits.gap hN
    bitsW := fun g hg j => .inl ⟨h.bitsW g hg j, by have := (h.bits.lt g hg).1; omega⟩
    byOk := ⟨h.byOk.look, h.byOk.non, fun x v hx hv => ⟨(h.byOk.has x v hx hv).1, (h.byOk.has x v hx hv).2.gap hN⟩, h.byOk.apart⟩
    findW := ⟨fun j => .inl ⟨h.findW.1 j, by have := h.find.lt; omega⟩, h.findW.2, by have := h.find.lt; omega⟩
    byW := ⟨fun j => .inl ⟨h.byW.1 j, by have := h.by_.lt; omega⟩, h.byW.2, by have := h.by_.lt; omega⟩
    atW := fun p hp => ⟨fun j => .inl ⟨(h.atW p hp).1 j, by have := (h.at_ p hp).lt; omega⟩, (h.atW p hp).2, by have := (h.at_ p hp).lt; omega⟩ }
/-- .. and back -/
theorem Sl.back {e size n : Nat} {v : Value} {xs : List Value} {N N' : Nat} (h : Sl (Z.gap N N') w e size v n xs) (hN : N ≤ N') (hZ : Z.opn N) : Sl Z w e size v n xs := by
  refine ⟨h.1, ?_⟩
  rcases h.2 with h' | ⟨g, cap, cur, rfl, hg, h1, h2, h3, h4, h5, h6⟩
  · exact .inl h'
  · exact .inr ⟨g, cap, cur, rfl, hg, h1, h2, h3, h4, fun j a b => (h5 j a b).elim (·.1) (fun h => hZ _ _ (by omega)), fun j a => (h6 j a).elim (·.1) (fun h => Z.sub _ _ (hZ _ _ (by omega)))⟩
theorem IsG.back {N N' : Nat} (h : IsG (Z.gap N N') w tb T ff ls L fa D) (hN : N ≤ N') (hZ : Z.opn N) : IsG Z w tb T ff ls L fa D := by
  have hw : ∀ {i j}, (Z.gap N N').W i j → Z.W i j := fun h => h.elim (·.1) (fun h => hZ _ _ (by omega))
  exact { h with
    own := fun j => hw (h.own j)
    rows := h.rows.back hN hZ
    rowsW := fun g hg j => hw (h.rowsW g hg j)
    bits := h.bits.back hN hZ
    bitsW := fun g hg j => hw (h.bitsW g hg j)
    byOk := ⟨h.byOk.look, h.byOk.non, fun x v hx hv => ⟨(h.byOk.has x v hx hv).1, (h.byOk.has x v hx hv).2.back hN hZ⟩, h.byOk.apart⟩
    findW := ⟨fun j => hw (h.findW.1 j), h.findW.2.1⟩
    byW := ⟨fun j => hw (h.byW.1 j), h.byW.2.1⟩
    atW := fun p hp => ⟨fun j => hw ((h.atW p hp).1 j), (h.atW p hp).2.1⟩ }
theorem Fr.back {N N' : Nat} (h : Fr (Z.gap N N') w w') (hN : N ≤ N') (hZ : Z.opn N) : Fr Z w w' :=
  h.mono (fun i j _ h => h.elim (·.1) (fun h => hZ _ _ (by omega))) (fun i _ h => h.1)
/-- what was made between N and N' lies as it lay -/
theorem Fr.between {N N' : Nat} (h : Fr (Z.gap N N') w w') {i : Nat} (h1 : N ≤ i) (h2 : i < N') (h3 : i < w.heap.size) : w'.heap[i]? = w.heap[i]? :=
  h.block i h3 (fun j hj => by rcases hj with ⟨_, h⟩ | h <;> omega)
end
end Go.Proofs.Ytellmhllgmimiaa
