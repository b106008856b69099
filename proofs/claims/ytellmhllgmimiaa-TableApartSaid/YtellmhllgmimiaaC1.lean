/- slices.Clone, slices.Clip, maps.Clone, as Copy calls them. -/
import Derived.Test.YtellmhllgmimiaaA2
import Derived.Test.YtellmhllgmimiaaG5
import Derived.Laws.Cover3
import Derived.Shelf.SlMaps.Clone
import Derived.Maps.RangeRun
namespace Go.Proofs.Ytellmhllgmimiaa
open Go.RowKit Go.Maps
set_option linter.unusedVariables false
set_option linter.unusedSimpArgs false

theorem eql_slice_nil {P : Program} (w : World) (t e : TypeId) (a : Option Addr) (n c : Nat) (h : P.underlying t = some (.slice e)) :
    (binOp .eql t (.slice a n c) (.slice none 0 0)).run P w = .ok (.bool a.isNone) w := by
  simp only [binOp]
  simp [run_equal_slice_nil w t e a n c h]
theorem own_empty (w : World) (e size : Nat) : (w.alloc (.cells #[] e)).ownsRow w.heap.size e size (.slice (some ⟨w.heap.size, 0, none⟩) 0 0) 0 [] :=
  ⟨by simp, .inr ⟨w.heap.size, 0, #[], rfl, Nat.le_refl _, World.alloc_heap_new _ _, Nat.le_refl _, Nat.zero_le _, by simp, by simp⟩⟩
section
variable {Z : Zone} {w w' : World}
theorem sl_of_own {e size n : Nat} {v : Value} {xs : List Value} {N : Nat} (h : w.ownsRow N e size v n xs) (hZ : ∀ i j, N ≤ i → Z.W i j) : Sl Z w e size v n xs ∧ ∀ g, v.ownBlock = some g → N ≤ g := by
  refine ⟨⟨h.1, ?_⟩, fun g hg => (h.lt g hg).1⟩
  rcases h.2 with h' | ⟨g, cap, cur, rfl, h1, h2, h3, h4, h5, h6⟩
  · exact .inl h'
  · exact .inr ⟨g, cap, cur, rfl, h2, h3, h4, by omega, h6, fun j _ _ => hZ g j h1, fun j _ => Z.sub _ _ (hZ g j h1)⟩
theorem sl_news {e size n : Nat} {g cap : Nat} {xs : List Value} (h : Sl Z w e size (.slice (some ⟨g, 0, none⟩) n cap) n xs) (hb : Below w.heap.size w w') : ∀ j u, xs[j]? = some u → w'.cell? ((⟨g, 0, none⟩ : Addr).add j) = some u := by
  intro j u hj
  rw [show (⟨g, 0, none⟩ : Addr).add j = ⟨g, j, none⟩ by unfold Addr.add; split <;> simp_all]
  exact (h.below hb).cells (g := g) rfl j u hj
set_option maxRecDepth 100000 in
theorem clone_rows {n : Nat} {v : Value} {xs : List Value} (h : Sl Z w 25 3 v n xs) (h1 : ∀ u ∈ xs, u.oneCell' = true) (hn : n ≤ 1000000) :
    Calls Try.prog 37 #[v] w fun e w' => ∃ v', e = .returned v' ∧ w'.ownsRow w.heap.size 25 3 v' n xs ∧ Below w.heap.size w w' := by
  obtain ⟨i0, hi0, hz0, hz1, hz2⟩ := info_parts Try.infoRow
  have Hi := Lib.hid hi0; have Hz0 := Lib.hid hz0; have Hz1 := Lib.hid hz1; have Hz2 := Lib.hid hz2
  have H := Lib.hid h; have H1 := Lib.hid h1
  clear hi0 hz0 hz1 hz2
  rcases h.2 with ⟨rfl, rfl⟩ | ⟨g, cap, cur, rfl, hg, hc1, hc2, hc3, hc4, _⟩
  · have hx : xs = [] := List.eq_nil_of_length_eq_zero (by simpa using h.1)
    subst hx
    clear h h1
    have hq := eql_slice_nil w 22 _ none 0 0 Try.underlying22
    go_enter Try.func37, Try.ntmps37
    go_wp2_with fail
    go_ret
    exact ⟨_, rfl, World.ownsRow_nil _ _ _ _, Below.refl _ _⟩
  · have hl := h.1
    have Hhl := Lib.hid hl
    clear h h1 hg hc4 hl hc1 hc2 hc3
    have hq := eql_slice_nil w 22 _ (some ⟨g, 0, none⟩) n cap Try.underlying22
    have HA := Lib.hid ((Below.refl _ w).alloc (Nat.le_refl _) (.cells #[] 25))
    go_enter Try.func37, Try.ntmps37
    go_wp2_with (at_builtin; refine wpList_append_own_at _ rfl _ _ 22 rfl w.heap.size 25 i0 (.agg #[.int .u32 0, .int .u32 0, .int .u32 0]) 3 12 Try.underlying22 Hi.out Hz0.out Hz1.out Hz2.out rfl (by decide) _ _ _ rfl (own_empty w _ _) ⟨g, 0, none⟩ n cap xs rfl Hhl.out (sl_news H.out HA.out) H1.out (by unfold maxLen; omega) (by omega) (by simp) ?_; intro v' w4 hown' hgrow _ hwh; have Hown' := Lib.hid hown'; have Hgrow := Lib.hid hgrow; clear hown' hgrow hwh)
    go_ret
    refine ⟨_, rfl, ?_, HA.out.grown Hgrow.out HA.out.size (fun j hj => by injection hj with hj; first | exact Nat.le_of_eq hj | exact Nat.le_of_eq hj.symm)⟩
    have := Hown'.out
    simpa using this
set_option maxRecDepth 100000 in
theorem clone_bits {n : Nat} {v : Value} {xs : List Value} (h : Sl Z w 32 1 v n xs) (h1 : ∀ u ∈ xs, u.oneCell' = true) (hn : n ≤ 1000000) :
    Calls Try.prog 38 #[v] w fun e w' => ∃ v', e = .returned v' ∧ w'.ownsRow w.heap.size 32 1 v' n xs ∧ Below w.heap.size w w' := by
  obtain ⟨i0, hi0, hz0, hz1, hz2⟩ := info_parts Try.infoBits
  have Hi := Lib.hid hi0; have Hz0 := Lib.hid hz0; have Hz1 := Lib.hid hz1; have Hz2 := Lib.hid hz2
  have H := Lib.hid h; have H1 := Lib.hid h1
  clear hi0 hz0 hz1 hz2
  rcases h.2 with ⟨rfl, rfl⟩ | ⟨g, cap, cur, rfl, hg, hc1, hc2, hc3, hc4, _⟩
  · have hx : xs = [] := List.eq_nil_of_length_eq_zero (by simpa using h.1)
    subst hx
    clear h h1
    have hq := eql_slice_nil w 42 _ none 0 0 Try.underlying42
    go_enter Try.func38, Try.ntmps38
    go_wp2_with fail
    go_ret
    exact ⟨_, rfl, World.ownsRow_nil _ _ _ _, Below.refl _ _⟩
  · have hl := h.1
    have Hhl := Lib.hid hl
    clear h h1 hg hc4 hl hc1 hc2 hc3
    have hq := eql_slice_nil w 42 _ (some ⟨g, 0, none⟩) n cap Try.underlying42
    have HA := Lib.hid ((Below.refl _ w).alloc (Nat.le_refl _) (.cells #[] 32))
    go_enter Try.func38, Try.ntmps38
    go_wp2_with (at_builtin; refine wpList_append_own_at _ rfl _ _ 42 rfl w.heap.size 32 i0 (.int .u8 0) 1 1 Try.underlying42 Hi.out Hz0.out Hz1.out Hz2.out rfl (by decide) _ _ _ rfl (own_empty w _ _) ⟨g, 0, none⟩ n cap xs rfl Hhl.out (sl_news H.out HA.out) H1.out (by unfold maxLen; omega) (by omega) (by simp) ?_; intro v' w4 hown' hgrow _ hwh; have Hown' := Lib.hid hown'; have Hgrow := Lib.hid hgrow; clear hown' hgrow hwh)
    go_ret
    refine ⟨_, rfl, ?_, HA.out.grown Hgrow.out HA.out.size (fun j hj => by injection hj with hj; first | exact Nat.le_of_eq hj | exact Nat.le_of_eq hj.symm)⟩
    have := Hown'.out
    simpa using this
set_option maxRecDepth 100000 in
theorem clone_find {κ : Type} {enc : κ → Value} {ok : κ → Prop} {b : Nat} {f : κ → Option Value} (h : MapAt enc ok w b f) :
    Calls Try.prog 39 #[.map (some b)] w fun e w' => e = .returned (.map (some w.heap.size)) ∧ MapAt enc ok w' w.heap.size f ∧ Below w.heap.size w w' ∧ w'.heap.size = w.heap.size + 1 := by
  obtain ⟨es, clock, hb, hok⟩ := h
  have Hok := Lib.hid hok; have Hb := Lib.hid hb
  clear hok hb
  have hq := run_eql_map_nil_sl (P := Try.prog) w 56 _ _ (some b) Try.underlying56
  go_enter Try.func39, Try.ntmps39
  go_wp2_with fail
  rw [run_callFunc_extern Try.func47 (by kernel_rfl) (by kernel_rfl) (by kernel_rfl) (e := Extern.MapsClone.clone) (by kernel_rfl), run_maps_clone_sl w 56 Hb.out]
  simp only [Result.andThen]
  rw [Oper.upon_value]
  go_wp2_with fail
  rw [run_typeAssert_map_sl _ 56 _ _ _ _ Try.underlying56]
  simp only [Result.andThen]
  rw [Oper.upon_value]
  go_wp2_with fail
  go_ret
  exact ⟨rfl, ⟨es, clock, World.alloc_heap_new _ _, Hok.out⟩, (Below.refl _ w).alloc (Nat.le_refl _) _, World.size_alloc _ _⟩
set_option maxRecDepth 100000 in
theorem clone_cnt {κ : Type} {enc : κ → Value} {ok : κ → Prop} {b : Nat} {f : κ → Option Value} (h : MapAt enc ok w b f) :
    Calls Try.prog 41 #[.map (some b)] w fun e w' => e = .returned (.map (some w.heap.size)) ∧ MapAt enc ok w' w.heap.size f ∧ Below w.heap.size w w' ∧ w'.heap.size = w.heap.size + 1 := by
  obtain ⟨es, clock, hb, hok⟩ := h
  have Hok := Lib.hid hok; have Hb := Lib.hid hb
  clear hok hb
  have hq := run_eql_map_nil_sl (P := Try.prog) w 58 _ _ (some b) Try.underlying58
  go_enter Try.func41, Try.ntmps41
  go_wp2_with fail
  rw [run_callFunc_extern Try.func47 (by kernel_rfl) (by kernel_rfl) (by kernel_rfl) (e := Extern.MapsClone.clone) (by kernel_rfl), run_maps_clone_sl w 58 Hb.out]
  simp only [Result.andThen]
  rw [Oper.upon_value]
  go_wp2_with fail
  rw [run_typeAssert_map_sl _ 58 _ _ _ _ Try.underlying58]
  simp only [Result.andThen]
  rw [Oper.upon_value]
  go_wp2_with fail
  go_ret
  exact ⟨rfl, ⟨es, clock, World.alloc_heap_new _ _, Hok.out⟩, (Below.refl _ w).alloc (Nat.le_refl _) _, World.size_alloc _ _⟩
theorem clip_any (g n cap : Nat) (w : World) (hc : n ≤ cap) (hn : n ≤ 1000000) : Calls Try.prog 40 #[.slice (some ⟨g, 0, none⟩) n cap] w fun e w' => e = .returned (.slice (some ⟨g, 0, none⟩) n n) ∧ w' = w := by
  go_enter Try.func40, Try.ntmps40
  go_wp2_with fail
  go_ret
  exact ⟨rfl, rfl⟩
end
end Go.Proofs.Ytellmhllgmimiaa
