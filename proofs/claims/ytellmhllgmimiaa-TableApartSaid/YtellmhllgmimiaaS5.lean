/- The acts that come in; the two tables at the start; TablePlays. -/
import Derived.Test.YtellmhllgmimiaaS4
namespace Go.Proofs.Ytellmhllgmimiaa
open Go.RowKit Go.Maps
set_option linter.unusedVariables false
set_option linter.unusedSimpArgs false

abbrev ActT := Int × R3 × Int × Int × Int
/-- the acts L lie at the slice's address -/
def IsActs (w : World) (a : Option Addr) (L : List ActT) : Prop := ∀ j (h : j < L.length), ∃ b off, a = some ⟨b, off, none⟩ ∧ b < w.heap.size ∧
  w.cell? ⟨b, off + j * 7, none⟩ = some (.int .i64 L[j].1) ∧ w.cell? ⟨b, off + j * 7 + 1, none⟩ = some (.int .u32 L[j].2.1.1) ∧ w.cell? ⟨b, off + j * 7 + 2, none⟩ = some (.int .u32 L[j].2.1.2.1) ∧
  w.cell? ⟨b, off + j * 7 + 3, none⟩ = some (.int .u32 L[j].2.1.2.2) ∧ w.cell? ⟨b, off + j * 7 + 4, none⟩ = some (.int .u8 L[j].2.2.1) ∧ w.cell? ⟨b, off + j * 7 + 5, none⟩ = some (.int .i64 L[j].2.2.2.1) ∧
  w.cell? ⟨b, off + j * 7 + 6, none⟩ = some (.int .i64 L[j].2.2.2.2) ∧ rok L[j].2.1 ∧ is8 L[j].2.2.1
theorem IsActs.below {w w' : World} {a : Option Addr} {L : List ActT} (h : IsActs w a L) (hb : Below w.heap.size w w') : IsActs w' a L := by
  intro j hj
  obtain ⟨b, off, h1, h2, c0, c1, c2, c3, c4, c5, c6, h3⟩ := h j hj
  exact ⟨b, off, h1, Nat.lt_of_lt_of_le h2 hb.size, cell_later hb c0, cell_later hb c1, cell_later hb c2, cell_later hb c3, cell_later hb c4, cell_later hb c5, cell_later hb c6, h3⟩

theorem addT_len (T : TS) (r : R3) (b : Int) : (addT T r b).length ≤ T.length + 1 := by
  unfold addT
  split
  · omega
  · split
    all_goals first | omega | (rw [setB_length]; omega) | (rw [setB_length]; simp)
theorem doT_len (T : TS) (kind : Int) (r : R3) (b n : Int) : (doT T kind r b n).length ≤ T.length + 1 := by
  unfold doT
  split
  · exact addT_len T r b
  · split
    · split
      · rw [setB_length]; omega
      · omega
    · split
      · split
        · rw [setB_length]; omega
        · omega
      · omega

/-- the reference's table with nothing in it -/
theorem isR_nil {Z : Zone} {w : World} (hw : ∀ j, Z.W w.heap.size j) : IsR Z (w.alloc (.cells #[.slice none 0 0, .slice none 0 0] 44)) w.heap.size [] (.slice none 0 0) (.slice none 0 0) where
  obj := World.alloc_heap_new w _
  own := hw
  rows := Sl.nil _ _ _ _
  rowsW := fun g hg => by simp [Value.ownBlock] at hg
  bits := Sl.nil _ _ _ _
  bitsW := fun g hg => by simp [Value.ownBlock] at hg
  oks := by simp
  long := by simp
  nil0 := fun _ => ⟨rfl, rfl⟩
/-- what is made from n0 on -/
def Zone.from (n0 : Nat) : Zone where
  W i _ := n0 ≤ i
  R i _ := n0 ≤ i
  M i := n0 ≤ i
  sub _ _ h := h
/-- one block -/
def Zone.one (n : Nat) : Zone where
  W i _ := i = n
  R i _ := i = n
  M _ := False
  sub _ _ h := h
theorem Sts.start {n0 : Nat} {w1 : World} {D : TabD} {tb : Nat} (hI : IsT (Zone.from n0) w1 tb [] D) (hn : n0 ≤ w1.heap.size) :
    Sts n0 (w1.alloc (.cells #[.slice none 0 0, .slice none 0 0] 44)) tb w1.heap.size [] [] := by
  have hz := World.size_alloc w1 (.cells #[.slice none 0 0, .slice none 0 0] 44)
  refine ⟨(Zone.from n0).cut w1.heap.size, Zone.one w1.heap.size, D, _, _, (hI.cut (Nat.le_refl _)).below ((Below.refl _ w1).alloc (Nat.le_refl _) _), isR_nil (fun _ => rfl), ?_, ?_, ?_, by omega⟩
  · rintro i j ⟨_, h1⟩ h2
    exact Nat.ne_of_lt h1 h2
  · rintro i j ⟨h1, h2⟩
    exact ⟨h1, by omega⟩
  · rintro i j h1
    exact ⟨by rw [show i = _ from h1]; exact hn, by rw [show i = _ from h1]; omega⟩

set_option maxRecDepth 100000 in
set_option maxHeartbeats 4000000 in
theorem plays_any (a : Option Addr) (cap : Nat) (L : List ActT) (w : World) (ha : IsActs w a L) :
    Calls Try.prog 5 #[.slice a L.length cap] w fun e w' => e = .returned (.bool true) ∧ Below w.heap.size w w' := by
  have HA := Lib.hid ha
  obtain ⟨l, hl⟩ : ∃ l, L.length = l := ⟨_, rfl⟩
  rw [hl]
  have Hl := Lib.hid hl
  clear ha hl
  go_enter Try.func5, Try.ntmps5
  by_cases hlen : 100 < l
  · have hd : decide ((l : Int) > 100) = true := by simp; omega
    go_wp2_with fail
    refine (known_any w).mono ?_
    rintro e w1 ⟨rfl, hB⟩
    have HB := Lib.hid hB
    clear hB
    go_wp2_with fail
    go_ret
    exact ⟨rfl, HB.out⟩
  · have hd : decide ((l : Int) > 100) = false := by simp; omega
    go_wp2_with fail
    refine (new_any (Z := Zone.from w.heap.size) (fun i j h => h) (fun i h => h)).mono ?_
    rintro e w1 ⟨rfl, hI, hB, -⟩
    have HI := Lib.hid hI; have HB := Lib.hid hB
    clear hI hB
    go_wp2_with fail
    have HS0 := Lib.hid (Sts.start HI.out HB.out.size)
    have HB0 := Lib.hid (HB.out.trans (((Below.refl _ w1).alloc (Nat.le_refl _) (.cells #[.slice none 0 0, .slice none 0 0] 44)).mono HB.out.size))
    obtain ⟨tb, htb⟩ : ∃ tb, w.heap.size + 2 = tb := ⟨_, rfl⟩
    generalize hW0 : w1.alloc (.cells #[.slice none 0 0, .slice none 0 0] 44) = W0 at *
    obtain ⟨rb, hrb⟩ : ∃ rb, w1.heap.size = rb := ⟨_, rfl⟩
    rw [htb, hrb] at HS0
    rw [htb, hrb]
    clear hW0 htb hrb
    go_wp2_with fail
    go_loopw [5] (fun u wr => ∃ k : Nat, k ≤ l ∧ u = .int .i64 k ∧ Below w.heap.size w wr ∧ ∃ T : TS, Sts w.heap.size wr tb rb T T ∧ T.length ≤ k) (fun u _ => l - (intOf u).toNat)
    case atStart => exact ⟨0, by omega, rfl, HB0.out, [], HS0.out, by simp⟩
    case round =>
      obtain ⟨k, hk, rfl, hBr, T, hSt, hT⟩ := hrel
      have HBr := Lib.hid hBr; have HSt := Lib.hid hSt; have HT := Lib.hid hT
      clear hBr hSt hT
      by_cases hkl : k < l
      · have hd2 : decide ((k : Int) < (l : Int)) = true := by simp; omega
        obtain ⟨ba, off, rfl, _, c0, c1, c2, c3, c4, c5, c6, hro, hb8⟩ := HA.out.below HBr.out k (by have := Hl.out; omega)
        obtain ⟨⟨kind, ⟨x0, x1, x2⟩, b, n, tu⟩, hy⟩ : ∃ y : ActT, L[k]'(by have := Hl.out; omega) = y := ⟨_, rfl⟩
        rw [hy] at c0 c1 c2 c3 c4 c5 c6 hro hb8
        clear hy
        go_wp2_with fail
        refine (do_any HSt.out kind (x0, x1, x2) hro b n tu hb8 (by have := HT.out; omega)).mono ?_
        obtain ⟨T2, hT2⟩ : ∃ T2, doT T kind (x0, x1, x2) b n = T2 := ⟨_, rfl⟩
        have HT2 := Lib.hid (show T2.length ≤ k + 1 by rw [← hT2]; have := doT_len T kind (x0, x1, x2) b n; have := HT.out; omega)
        rw [hT2]
        rintro e w2 ⟨rfl, hS2, hB2⟩
        have HS2 := Lib.hid hS2; have HB2 := Lib.hid (HBr.out.trans hB2)
        clear hS2 hB2 hT2 hro hb8 c0 c1 c2 c3 c4 c5 c6
        go_wp2_with fail
        · refine (same_any HS2.out).mono ?_
          rintro e w3 ⟨rfl, hB3⟩
          have HB3 := Lib.hid (HB2.out.trans (hB3.mono HB2.out.size))
          have HS3 := Lib.hid (HS2.out.below hB3)
          clear hB3
          go_wp2_with fail
          exact ⟨⟨k + 1, by omega, by push_cast; rfl, HB3.out, T2, HS3.out, HT2.out⟩, by simp [intOf]; omega⟩
        · exact ⟨⟨k + 1, by omega, by push_cast; rfl, HB2.out, T2, HS2.out, HT2.out⟩, by simp [intOf]; omega⟩
      · have hkl' : k = l := by omega
        subst hkl'
        have hd2 : decide ((k : Int) < (k : Int)) = false := by simp
        go_wp2_with fail
        refine (same_any HSt.out).mono ?_
        rintro e w2 ⟨rfl, hB2⟩
        have HB2 := Lib.hid (HBr.out.trans (hB2.mono HBr.out.size))
        clear hB2
        go_wp2_with fail
        refine (known_any w2).mono ?_
        rintro e w3 ⟨rfl, hB3⟩
        have HB3 := Lib.hid (HB2.out.trans (hB3.mono HB2.out.size))
        clear hB3
        go_wp2_with fail
        go_ret
        exact ⟨rfl, HB3.out⟩
end Go.Proofs.Ytellmhllgmimiaa
