/- Copy, walked. -/
import Derived.Test.YtellmhllgmimiaaC2
namespace Go.Proofs.Ytellmhllgmimiaa
open Go.RowKit Go.Maps
set_option linter.unusedVariables false
set_option linter.unusedSimpArgs false

/-- the copy as it is built first: rows, bits, find; no lists yet, no counts -/
structure CopyA (N : Nat) (w : World) (T : TS) (ob : Nat) (v1 v2 : Value) (bf bb : Nat) (L : Int) (gb : R3 → Option Value) (wx : World) : Prop where
  obj : wx.heap[ob]? = some (.cells #[v1, v2, .map (some bf), .map (some bb), .map none, .map none, .map none, .int .i64 L] 61 (0, 0))
  rows : wx.ownsRow N 25 3 v1 T.length (rcs T)
  bits : wx.ownsRow N 32 1 v2 T.length (bcs T)
  find : MapAt rv rok wx bf (idxF T)
  by_ : MapAt rv rok wx bb gb
  ge : N ≤ ob ∧ N ≤ bf ∧ N ≤ bb
  ne : bf ≠ bb
  bel : Below N w wx
theorem own_any {w : World} {B e size n : Nat} {v : Value} {xs : List Value} (h : w.ownsRow B e size v n xs) : ∃ a c, v = .slice a n c := by
  rcases h.2 with ⟨rfl, rfl⟩ | ⟨g, cap, cur, rfl, _⟩
  · exact ⟨none, 0, rfl⟩
  · exact ⟨_, _, rfl⟩
theorem rcs_one (T : TS) : ∀ u ∈ rcs T, u.oneCell' = true := by
  intro u hu
  simp only [rcs, List.mem_flatMap, List.mem_cons, List.not_mem_nil, or_false] at hu
  obtain ⟨y, _, (rfl | rfl | rfl)⟩ := hu <;> rfl
theorem bcs_one (T : TS) : ∀ u ∈ bcs T, u.oneCell' = true := by
  intro u hu
  simp only [bcs, List.mem_map] at hu
  obtain ⟨y, _, rfl⟩ := hu
  rfl
theorem CopyA.below {N : Nat} {w : World} {T : TS} {ob : Nat} {v1 v2 : Value} {bf bb : Nat} {L : Int} {gb : R3 → Option Value} {wx wy : World} (h : CopyA N w T ob v1 v2 bf bb L gb wx) (hb : Below wx.heap.size wx wy) : CopyA N w T ob v1 v2 bf bb L gb wy :=
  ⟨(hb.block _ (Array.getElem?_eq_some_iff.1 h.obj).1).trans h.obj, own_below h.rows hb, own_below h.bits hb, h.find.stay (hb.block _ h.find.lt), h.by_.stay (hb.block _ h.by_.lt), h.ge, h.ne, h.bel.trans (hb.mono (by have := h.ge.1; have := (Array.getElem?_eq_some_iff.1 h.obj).1; omega))⟩
theorem CopyA.turn {N : Nat} {w : World} {T : TS} {ob : Nat} {v1 v2 : Value} {bf bb : Nat} {L : Int} {gb gb' : R3 → Option Value} {wx wy : World} (h : CopyA N w T ob v1 v2 bf bb L gb wx)
    (hb : ∀ i, (i = ob ∨ i = bf ∨ v1.ownBlock = some i ∨ v2.ownBlock = some i) → wy.heap[i]? = wx.heap[i]?) (hby : MapAt rv rok wy bb gb') (hbel : Below N w wy) : CopyA N w T ob v1 v2 bf bb L gb' wy :=
  ⟨(hb _ (.inl rfl)).trans h.obj, own_blk h.rows (fun g hg => hb g (.inr (.inr (.inl hg)))), own_blk h.bits (fun g hg => hb g (.inr (.inr (.inr hg)))), h.find.stay (hb _ (.inr (.inl rfl))), hby, h.ge, h.ne, hbel⟩
theorem CopyA.bd {N : Nat} {w : World} {T : TS} {ob : Nat} {v1 v2 : Value} {bf bb : Nat} {L : Int} {gb : R3 → Option Value} {wx : World} (h : CopyA N w T ob v1 v2 bf bb L gb wx) :
    ∀ i, (i = ob ∨ i = bf ∨ i = bb ∨ v1.ownBlock = some i ∨ v2.ownBlock = some i) → i < wx.heap.size ∧ N ≤ i := by
  have h1 := (Array.getElem?_eq_some_iff.1 h.obj).1
  have h2 := h.find.lt
  have h3 := h.by_.lt
  have h4 := h.ge
  rintro i (rfl | rfl | rfl | hi | hi)
  · exact ⟨h1, h4.1⟩
  · exact ⟨h2, h4.2.1⟩
  · exact ⟨h3, h4.2.2⟩
  · exact ⟨(h.rows.lt i hi).2, (h.rows.lt i hi).1⟩
  · exact ⟨(h.bits.lt i hi).2, (h.bits.lt i hi).1⟩
theorem CopyA.bb_own {N : Nat} {w : World} {T : TS} {ob : Nat} {v1 v2 : Value} {bf bb : Nat} {L : Int} {gb : R3 → Option Value} {wx : World} (h : CopyA N w T ob v1 v2 bf bb L gb wx) :
    ∀ i, (i = ob ∨ i = bf ∨ v1.ownBlock = some i ∨ v2.ownBlock = some i) → i ≠ bb := by
  obtain ⟨es, c, hm⟩ := h.by_.heap
  have ho : ∀ {e size n : Nat} {v : Value} {xs : List Value}, wx.ownsRow N e size v n xs → ∀ i, v.ownBlock = some i → i ≠ bb := by
    intro e size n v xs hw i hi e'
    subst e'
    rcases hw.2 with ⟨rfl, _⟩ | ⟨g, cap, cur, rfl, _, h2, _⟩
    · simp [Value.ownBlock] at hi
    · simp [Value.ownBlock] at hi
      subst hi
      rw [hm] at h2; injection h2 with h2; cases h2
  rintro i (rfl | rfl | hi | hi)
  · intro e'
    have h2 := h.obj
    rw [e', hm] at h2; injection h2 with h2; cases h2
  · exact h.ne
  · exact ho h.rows i hi
  · exact ho h.bits i hi
/-- a list as the copy has it: no room behind it -/
def clip : Value → Value
  | .slice a n _ => .slice a n n
  | v => v
def clipO (v : Option Value) : Option Value := v.map clip
/-- the counts come one by one -/
def atV (ba : Nat → Nat) (j p : Nat) : Value := if p < j then .map (some (ba p)) else .map none
structure CopyC (N : Nat) (w : World) (T : TS) (ob : Nat) (v1 v2 : Value) (bf bb : Nat) (L : Int) (gb : R3 → Option Value) (ba : Nat → Nat) (j : Nat) (wx : World) : Prop where
  obj : wx.heap[ob]? = some (.cells #[v1, v2, .map (some bf), .map (some bb), atV ba j 0, atV ba j 1, atV ba j 2, .int .i64 L] 61 (0, 0))
  rows : wx.ownsRow N 25 3 v1 T.length (rcs T)
  bits : wx.ownsRow N 32 1 v2 T.length (bcs T)
  find : MapAt rv rok wx bf (idxF T)
  by_ : MapAt rv rok wx bb gb
  ge : N ≤ ob ∧ N ≤ bf ∧ N ≤ bb
  ne : bf ≠ bb
  bel : Below N w wx
  at_ : ∀ p, p < j → MapAt uv is32 wx (ba p) (cntF T p) ∧ N ≤ ba p
  ne2 : ∀ p, p < j → bf ≠ ba p ∧ bb ≠ ba p
  ne3 : ∀ p q, p < j → q < j → p ≠ q → ba p ≠ ba q
theorem CopyA.toC {N : Nat} {w : World} {T : TS} {ob : Nat} {v1 v2 : Value} {bf bb : Nat} {L : Int} {gb gb' : R3 → Option Value} {wx : World} (h : CopyA N w T ob v1 v2 bf bb L gb wx) (hg : ∀ x, rok x → gb' x = gb x) : CopyC N w T ob v1 v2 bf bb L gb' (fun _ => 0) 0 wx :=
  ⟨h.obj, h.rows, h.bits, h.find, h.by_.congr hg, h.ge, h.ne, h.bel, fun p hp => by omega, fun p hp => by omega, fun p q hp => by omega⟩
theorem CopyC.below {N : Nat} {w : World} {T : TS} {ob : Nat} {v1 v2 : Value} {bf bb : Nat} {L : Int} {gb : R3 → Option Value} {ba : Nat → Nat} {j : Nat} {wx wy : World} (h : CopyC N w T ob v1 v2 bf bb L gb ba j wx) (hb : Below wx.heap.size wx wy) : CopyC N w T ob v1 v2 bf bb L gb ba j wy :=
  ⟨(hb.block _ (Array.getElem?_eq_some_iff.1 h.obj).1).trans h.obj, own_below h.rows hb, own_below h.bits hb, h.find.stay (hb.block _ h.find.lt), h.by_.stay (hb.block _ h.by_.lt), h.ge, h.ne, h.bel.trans (hb.mono (by have := h.ge.1; have := (Array.getElem?_eq_some_iff.1 h.obj).1; omega)),
    fun p hp => ⟨(h.at_ p hp).1.stay (hb.block _ (h.at_ p hp).1.lt), (h.at_ p hp).2⟩, h.ne2, h.ne3⟩
theorem CopyC.step {N : Nat} {w : World} {T : TS} {ob : Nat} {v1 v2 : Value} {bf bb : Nat} {L : Int} {gb : R3 → Option Value} {ba : Nat → Nat} {j b' : Nat} {wx wm : World} (h0 : CopyC N w T ob v1 v2 bf bb L gb ba j wx) (hj : j < 3) (hb : Below wx.heap.size wx wm)
    (hm : MapAt uv is32 wm b' (cntF T j)) (hge : wx.heap.size ≤ b') : CopyC N w T ob v1 v2 bf bb L gb (fun p => if p = j then b' else ba p) (j + 1) (wm.setCell ⟨ob, 4 + j, none⟩ (.map (some b'))) := by
  have h := h0.below hb
  have hob := (Array.getElem?_eq_some_iff.1 h0.obj).1
  have hNx : N ≤ wx.heap.size := by have := h0.ge.1; omega
  have hoth : ∀ i, i ≠ ob → (wm.setCell ⟨ob, 4 + j, none⟩ (.map (some b'))).heap[i]? = wm.heap[i]? := fun i hi => Below.heap_setCell _ _ _ i hi
  have hmo : ∀ {κ : Type} {enc : κ → Value} {ok : κ → Prop} {b : Nat} {f : κ → Option Value}, MapAt enc ok wm b f → b ≠ ob := by
    intro κ enc ok b f hm e
    obtain ⟨es, c, h1⟩ := hm.heap
    have h2 := h.obj
    rw [← e, h1] at h2; injection h2 with h2; cases h2
  have hoo : ∀ {e size n : Nat} {v : Value} {xs : List Value}, wm.ownsRow N e size v n xs → e ≠ 61 → ∀ g, v.ownBlock = some g → g ≠ ob := by
    intro e size n v xs hw he g hg e'
    rcases hw.2 with ⟨rfl, _⟩ | ⟨g', cap, cur, rfl, _, h2, _⟩
    · simp [Value.ownBlock] at hg
    · simp [Value.ownBlock] at hg
      subst hg
      rw [e', h.obj] at h2
      injection h2 with h2; injection h2 with _ h2 _
      exact he h2.symm
  refine ⟨?_, own_blk h.rows (fun g hg => hoth g (hoo h.rows (by decide) g hg)), own_blk h.bits (fun g hg => hoth g (hoo h.bits (by decide) g hg)), h.find.stay (hoth _ (hmo h.find)), h.by_.stay (hoth _ (hmo h.by_)), h.ge, h.ne,
    h.bel.setCell (p := ⟨ob, 4 + j, none⟩) h.ge.1 _, fun p hp => ?_, fun p hp => ?_, fun p q hp hq hpq => ?_⟩
  · rw [set_heap h.obj]
    have : j = 0 ∨ j = 1 ∨ j = 2 := by omega
    rcases this with rfl | rfl | rfl <;> simp [atV]
  · by_cases hpj : p = j
    · subst hpj
      simp only [if_pos]
      exact ⟨hm.stay (hoth _ (hmo hm)), by omega⟩
    · simp only [if_neg hpj]
      exact ⟨(h.at_ p (by omega)).1.stay (hoth _ (hmo (h.at_ p (by omega)).1)), (h.at_ p (by omega)).2⟩
  · by_cases hpj : p = j
    · simp only [if_pos hpj]
      have := h0.find.lt
      have := h0.by_.lt
      omega
    · simp only [if_neg hpj]
      exact h.ne2 p (by omega)
  · by_cases hpj : p = j
    · by_cases hqj : q = j
      · omega
      · simp only [if_pos hpj, if_neg hqj]
        have := (h0.at_ q (by omega)).1.lt
        omega
    · by_cases hqj : q = j
      · simp only [if_neg hpj, if_pos hqj]
        have := (h0.at_ p (by omega)).1.lt
        omega
      · simp only [if_neg hpj, if_neg hqj]
        exact h.ne3 p q (by omega) (by omega) hpq
/-- the copy's zone: what came anew, and the lists' contents that it reads -/
def Zone.copyZ (S : Nat → Nat → Prop) (N : Nat) : Zone where
  W i _ := N ≤ i
  R i j := N ≤ i ∨ S i j
  M i := N ≤ i
  sub _ _ h := .inl h
theorem clip_own (v : Value) : (clip v).ownBlock = v.ownBlock := by
  unfold clip
  split
  · cases ‹Option Addr› <;> rfl
  · rfl
theorem CopyC.isT {Z : Zone} {w : World} {tb : Nat} {T : TS} {D : TabD} {ob : Nat} {v1 v2 : Value} {bf bb : Nat} {ba : Nat → Nat} {wx : World} (h : CopyC w.heap.size w T ob v1 v2 bf bb (live T) (fun x => clipO (D.mb x)) ba 3 wx) (H : IsT Z w tb T D) :
    IsT (Zone.copyZ (LC D (lst T)) w.heap.size) wx ob T { vr := v1, vb := v2, bf := bf, bb := bb, ba := ba, mb := fun x => clipO (D.mb x) } := by
  have hW : ∀ i j, w.heap.size ≤ i → (Zone.copyZ (LC D (lst T)) w.heap.size).W i j := fun i j hi => hi
  have hr := sl_of_own h.rows hW
  have hb := sl_of_own h.bits hW
  have hcl : ∀ {x : R3} {v : Value}, clipO (D.mb x) = some v → ∃ u, D.mb x = some u ∧ v = clip u := by
    intro x v hv
    unfold clipO at hv
    cases hm : D.mb x with
    | none => rw [hm] at hv; cases hv
    | some u => rw [hm] at hv; injection hv with hv; exact ⟨u, rfl, hv.symm⟩
  refine { obj := ?_, own := fun j => h.ge.1, rows := hr.1, rowsW := fun g hg j => hr.2 g hg, bits := hb.1, bitsW := fun g hg j => hb.2 g hg, find := h.find, by_ := h.by_, byOk := ⟨fun x hx hn => H.byOk.look x hx (fun e => hn (by simp [clipO, e])), fun x hx h2 hn => H.byOk.non x hx h2 ?_, fun x v hx hv => ?_, fun x y v u hx hy hv hu hxy => ?_⟩, at_ := fun p hp => (h.at_ p hp).1, findW := ⟨fun j => h.ge.2.1, h.ge.2.1⟩, byW := ⟨fun j => h.ge.2.2, h.ge.2.2⟩, atW := fun p hp => ⟨fun j => (h.at_ p hp).2, (h.at_ p hp).2⟩, ne1 := h.ne, ne2 := h.ne2, ne3 := h.ne3, oks := H.oks, nodup := H.nodup, long := H.long }
  · exact h.obj
  · cases hm : D.mb x with
    | none => rfl
    | some u => simp [clipO, hm] at hn
  · obtain ⟨u, hu, rfl⟩ := hcl hv
    obtain ⟨hne, hsl⟩ := H.byOk.has x u hx hu
    refine ⟨hne, hsl.1, ?_⟩
    rcases hsl.2 with ⟨_, hz⟩ | ⟨g, cap, cur, rfl, hg, h1, h2, h3, h4, h5, h6⟩
    · exact absurd (List.eq_nil_of_length_eq_zero hz) hne
    · exact .inr ⟨g, _, cur, rfl, (h.bel.block g (Array.getElem?_eq_some_iff.1 hg).1).trans hg, Nat.le_refl _, by omega, by omega, h4, fun j a b => by omega, fun j a => .inr ⟨x, _, hx, hu, rfl, by omega⟩⟩
  · obtain ⟨u1, hu1, rfl⟩ := hcl hv
    obtain ⟨u2, hu2, rfl⟩ := hcl hu
    rw [clip_own, clip_own]
    exact H.byOk.apart x y u1 u2 hx hy hu1 hu2 hxy
section
variable {Z : Zone} {w : World} {tb : Nat} {T : TS} {D : TabD}
set_option maxRecDepth 100000 in
set_option maxHeartbeats 8000000 in
theorem copy_any (h : IsT Z w tb T D) : Calls Try.prog 19 #[.pointer (some ⟨tb, 0, none⟩)] w fun e w' => ∃ (ob : Nat) (Do : TabD), e = .returned (.pointer (some ⟨ob, 0, none⟩)) ∧ IsT (Zone.copyZ (LC D (lst T)) w.heap.size) w' ob T Do ∧ Below w.heap.size w w' := by
  have H := Lib.hid h
  have hlong := h.long
  clear h
  go_enter Try.func19, Try.ntmps19
  go_wp2_with fail
  refine (there_any H.out).mono ?_
  rintro e w' ⟨rfl, rfl⟩
  go_wp2_with fail
  have c0 : w.drew.cell? ⟨tb, 0, none⟩ = _ := H.out.c0
  have c1 : w.drew.cell? ⟨tb, 1, none⟩ = _ := H.out.c1
  have c2 : w.drew.cell? ⟨tb, 2, none⟩ = _ := H.out.c2
  have c7 : w.drew.cell? ⟨tb, 7, none⟩ = _ := H.out.c7
  go_cut [3] from 10 to 31 (fun u3 wx => ∃ (ob : Nat) (v1 v2 : Value) (bf bb : Nat), u3 = .pointer (some ⟨ob, 0, none⟩) ∧ CopyA w.heap.size w T ob v1 v2 bf bb (live T) (fun _ => none) wx)
  case first =>
    obtain ⟨S3, hSe⟩ : ∃ S : Array Bool → World → Prop, S = fun _ w' => Below w.drew.heap.size w.drew w' := ⟨_, rfl⟩
    have hdrop : ∀ i : Nat, ∀ L w', S3 (L.setIfInBounds i true) w' → S3 L w' := by
      intro i L w' h; rw [hSe] at h ⊢; exact h
    have hS : ∀ L, S3 L w.drew := by intro L; rw [hSe]; exact Below.refl _ _
    have hSo : ∀ {L w'}, S3 L w' → Below w.drew.heap.size w.drew w' := by intro L w' h; rw [hSe] at h; exact h
    have hSi : ∀ {w'}, Below w.drew.heap.size w.drew w' → ∀ L, S3 L w' := by intro w' h L; rw [hSe]; exact h
    clear hSe
    refine wp_region_LN S3 23 #[false, false, false, false, false, false, false, false, false, false, false, false, false, false, false, false, false, false, false, false, false, false, false] (by kernel_rfl) (by kernel_rfl) rfl ?_
    refine WA.take (i := 0) (v := .pointer (some ⟨tb, 0, none⟩)) rfl (by kernel_rfl) (by kernel_rfl) (by kernel_rfl) (fun _ _ _ h => h) (hdrop 0) (Or.inl ⟨by rfl, ?_⟩) (hS _) ?_
    · rintro w' ⟨L, hL, hSw, hun⟩
      go_simp
    simp only [List.getElem_toArray, List.getElem_cons_zero, List.getElem_cons_succ, Act.put, List.setIfInBounds_toArray, List.set_cons_zero, List.set_cons_succ]
    refine WA.take (i := 1) (v := .pointer (some ⟨tb, 0, none⟩)) rfl (by kernel_rfl) (by kernel_rfl) (by kernel_rfl) (fun _ _ _ h => h) (hdrop 1) (Or.inl ⟨by rfl, ?_⟩) (hS _) ?_
    · rintro w' ⟨L, hL, hSw, hun⟩
      go_simp
    simp only [List.getElem_toArray, List.getElem_cons_zero, List.getElem_cons_succ, Act.put, List.setIfInBounds_toArray, List.set_cons_zero, List.set_cons_succ]
    refine WA.take (i := 2) (v := .pointer (some ⟨tb, 0, none⟩)) rfl (by kernel_rfl) (by kernel_rfl) (by kernel_rfl) (fun _ _ _ h => h) (hdrop 2) (Or.inl ⟨by rfl, ?_⟩) (hS _) ?_
    · rintro w' ⟨L, hL, hSw, hun⟩
      go_simp
    simp only [List.getElem_toArray, List.getElem_cons_zero, List.getElem_cons_succ, Act.put, List.setIfInBounds_toArray, List.set_cons_zero, List.set_cons_succ]
    refine WA.take (i := 3) (v := D.vr) rfl (by kernel_rfl) (by kernel_rfl) (by kernel_rfl) (fun _ _ _ h => h) (hdrop 3) (Or.inl ⟨by rfl, ?_⟩) (hS _) ?_
    · rintro w' ⟨L, hL, hSw, hun⟩
      have hbw := hSo hSw
      have c0 := cell_later hbw c0
      clear hbw
      go_simp
    simp only [List.getElem_toArray, List.getElem_cons_zero, List.getElem_cons_succ, Act.put, List.setIfInBounds_toArray, List.set_cons_zero, List.set_cons_succ]
    refine WA.take (i := 5) (v := .pointer (some ⟨tb, 0, none⟩)) rfl (by kernel_rfl) (by kernel_rfl) (by kernel_rfl) (fun _ _ _ h => h) (hdrop 5) (Or.inl ⟨by rfl, ?_⟩) (hS _) ?_
    · rintro w' ⟨L, hL, hSw, hun⟩
      go_simp
    simp only [List.getElem_toArray, List.getElem_cons_zero, List.getElem_cons_succ, Act.put, List.setIfInBounds_toArray, List.set_cons_zero, List.set_cons_succ]
    refine WA.take (i := 6) (v := .pointer (some ⟨tb, 0, none⟩)) rfl (by kernel_rfl) (by kernel_rfl) (by kernel_rfl) (fun _ _ _ h => h) (hdrop 6) (Or.inl ⟨by rfl, ?_⟩) (hS _) ?_
    · rintro w' ⟨L, hL, hSw, hun⟩
      go_simp
    simp only [List.getElem_toArray, List.getElem_cons_zero, List.getElem_cons_succ, Act.put, List.setIfInBounds_toArray, List.set_cons_zero, List.set_cons_succ]
    refine WA.take (i := 7) (v := .pointer (some ⟨tb, 1, none⟩)) rfl (by kernel_rfl) (by kernel_rfl) (by kernel_rfl) (fun _ _ _ h => h) (hdrop 7) (Or.inl ⟨by rfl, ?_⟩) (hS _) ?_
    · rintro w' ⟨L, hL, hSw, hun⟩
      go_simp
    simp only [List.getElem_toArray, List.getElem_cons_zero, List.getElem_cons_succ, Act.put, List.setIfInBounds_toArray, List.set_cons_zero, List.set_cons_succ]
    refine WA.take (i := 8) (v := D.vb) rfl (by kernel_rfl) (by kernel_rfl) (by kernel_rfl) (fun _ _ _ h => h) (hdrop 8) (Or.inl ⟨by rfl, ?_⟩) (hS _) ?_
    · rintro w' ⟨L, hL, hSw, hun⟩
      have hbw := hSo hSw
      have c1 := cell_later hbw c1
      clear hbw
      go_simp
    simp only [List.getElem_toArray, List.getElem_cons_zero, List.getElem_cons_succ, Act.put, List.setIfInBounds_toArray, List.set_cons_zero, List.set_cons_succ]
    refine WA.take (i := 10) (v := .pointer (some ⟨tb, 0, none⟩)) rfl (by kernel_rfl) (by kernel_rfl) (by kernel_rfl) (fun _ _ _ h => h) (hdrop 10) (Or.inl ⟨by rfl, ?_⟩) (hS _) ?_
    · rintro w' ⟨L, hL, hSw, hun⟩
      go_simp
    simp only [List.getElem_toArray, List.getElem_cons_zero, List.getElem_cons_succ, Act.put, List.setIfInBounds_toArray, List.set_cons_zero, List.set_cons_succ]
    refine WA.take (i := 11) (v := .pointer (some ⟨tb, 0, none⟩)) rfl (by kernel_rfl) (by kernel_rfl) (by kernel_rfl) (fun _ _ _ h => h) (hdrop 11) (Or.inl ⟨by rfl, ?_⟩) (hS _) ?_
    · rintro w' ⟨L, hL, hSw, hun⟩
      go_simp
    simp only [List.getElem_toArray, List.getElem_cons_zero, List.getElem_cons_succ, Act.put, List.setIfInBounds_toArray, List.set_cons_zero, List.set_cons_succ]
    refine WA.take (i := 12) (v := .pointer (some ⟨tb, 2, none⟩)) rfl (by kernel_rfl) (by kernel_rfl) (by kernel_rfl) (fun _ _ _ h => h) (hdrop 12) (Or.inl ⟨by rfl, ?_⟩) (hS _) ?_
    · rintro w' ⟨L, hL, hSw, hun⟩
      go_simp
    simp only [List.getElem_toArray, List.getElem_cons_zero, List.getElem_cons_succ, Act.put, List.setIfInBounds_toArray, List.set_cons_zero, List.set_cons_succ]
    refine WA.take (i := 13) (v := .map (some D.bf)) rfl (by kernel_rfl) (by kernel_rfl) (by kernel_rfl) (fun _ _ _ h => h) (hdrop 13) (Or.inl ⟨by rfl, ?_⟩) (hS _) ?_
    · rintro w' ⟨L, hL, hSw, hun⟩
      have hbw := hSo hSw
      have c2 := cell_later hbw c2
      clear hbw
      go_simp
    simp only [List.getElem_toArray, List.getElem_cons_zero, List.getElem_cons_succ, Act.put, List.setIfInBounds_toArray, List.set_cons_zero, List.set_cons_succ]
    refine WA.take (i := 16) (v := .pointer (some ⟨tb, 0, none⟩)) rfl (by kernel_rfl) (by kernel_rfl) (by kernel_rfl) (fun _ _ _ h => h) (hdrop 16) (Or.inl ⟨by rfl, ?_⟩) (hS _) ?_
    · rintro w' ⟨L, hL, hSw, hun⟩
      go_simp
    simp only [List.getElem_toArray, List.getElem_cons_zero, List.getElem_cons_succ, Act.put, List.setIfInBounds_toArray, List.set_cons_zero, List.set_cons_succ]
    refine WA.take (i := 17) (v := .pointer (some ⟨tb, 0, none⟩)) rfl (by kernel_rfl) (by kernel_rfl) (by kernel_rfl) (fun _ _ _ h => h) (hdrop 17) (Or.inl ⟨by rfl, ?_⟩) (hS _) ?_
    · rintro w' ⟨L, hL, hSw, hun⟩
      go_simp
    simp only [List.getElem_toArray, List.getElem_cons_zero, List.getElem_cons_succ, Act.put, List.setIfInBounds_toArray, List.set_cons_zero, List.set_cons_succ]
    refine WA.take (i := 18) (v := .pointer (some ⟨tb, 7, none⟩)) rfl (by kernel_rfl) (by kernel_rfl) (by kernel_rfl) (fun _ _ _ h => h) (hdrop 18) (Or.inl ⟨by rfl, ?_⟩) (hS _) ?_
    · rintro w' ⟨L, hL, hSw, hun⟩
      go_simp
    simp only [List.getElem_toArray, List.getElem_cons_zero, List.getElem_cons_succ, Act.put, List.setIfInBounds_toArray, List.set_cons_zero, List.set_cons_succ]
    refine WA.take (i := 19) (v := .int .i64 (live T)) rfl (by kernel_rfl) (by kernel_rfl) (by kernel_rfl) (fun _ _ _ h => h) (hdrop 19) (Or.inl ⟨by rfl, ?_⟩) (hS _) ?_
    · rintro w' ⟨L, hL, hSw, hun⟩
      have hbw := hSo hSw
      have c7 := cell_later hbw c7
      clear hbw
      go_simp
    simp only [List.getElem_toArray, List.getElem_cons_zero, List.getElem_cons_succ, Act.put, List.setIfInBounds_toArray, List.set_cons_zero, List.set_cons_succ]
    have hmk : ∀ (t : TypeId) (w : World), (Instr.makeMap t none).run Try.prog w = .ok (.map (some w.heap.size)) (w.alloc (.map #[] 0)) := fun _ _ => rfl
    have B0 := Lib.hid (below_drew w); have Bd0 := Lib.hid (Below.refl w.drew.heap.size w.drew)
    obtain ⟨W0, hW0⟩ : ∃ W0, W0 = w.drew := ⟨_, rfl⟩
    rw [← hW0] at B0 Bd0 hSi ⊢
    clear hW0
    refine WA.all (rs := [4, 15]) (by kernel_rfl) (by simp) ?_
    intro i hi
    rcases (show i = 4 ∨ i = 15 by simpa using hi) with rfl | rfl
    · refine wpOp_go rfl (by rfl) (fun K hK => ?_)
      go_simp
      refine (clone_rows (H.out.rows.below B0.out) (rcs_one T) hlong).mono ?_
      rintro e W1 ⟨v1, rfl, o1, b1⟩
      obtain ⟨a1, k1, rfl⟩ := own_any o1
      have O1 := Lib.hid (own_mono o1 B0.out.size)
      have B1 := Lib.hid (B0.out.trans (b1.mono B0.out.size)); have Bd1 := Lib.hid (Bd0.out.trans (b1.mono Bd0.out.size))
      clear b1 o1
      refine hK _ _ ⟨hSi Bd1.out _, ?_⟩
      clear hK hi
      try simp only [List.getElem_toArray, List.getElem_cons_zero, List.getElem_cons_succ, Act.put, List.setIfInBounds_toArray, List.set_cons_zero, List.set_cons_succ]
      refine WA.all (rs := [9, 15]) (by kernel_rfl) (by simp) ?_
      intro i hi
      rcases (show i = 9 ∨ i = 15 by simpa using hi) with rfl | rfl
      · refine wpOp_go rfl (by rfl) (fun K hK => ?_)
        go_simp
        refine (clone_bits (H.out.bits.below B1.out) (bcs_one T) hlong).mono ?_
        rintro e W2 ⟨v2, rfl, o1, b1⟩
        obtain ⟨a2, k2, rfl⟩ := own_any o1
        have O2 := Lib.hid (own_mono o1 B1.out.size)
        have O1 := Lib.hid (own_below O1.out b1)
        have B2 := Lib.hid (B1.out.trans (b1.mono B1.out.size)); have Bd2 := Lib.hid (Bd1.out.trans (b1.mono Bd1.out.size))
        clear b1 o1
        refine hK _ _ ⟨hSi Bd2.out _, ?_⟩
        clear hK hi
        try simp only [List.getElem_toArray, List.getElem_cons_zero, List.getElem_cons_succ, Act.put, List.setIfInBounds_toArray, List.set_cons_zero, List.set_cons_succ]
        refine WA.all (rs := [14, 15]) (by kernel_rfl) (by simp) ?_
        intro i hi
        rcases (show i = 14 ∨ i = 15 by simpa using hi) with rfl | rfl
        · refine wpOp_go rfl (by rfl) (fun K hK => ?_)
          go_simp
          refine (clone_find (H.out.find.stay (B2.out.block _ H.out.find.lt))).mono ?_
          rintro e W3 ⟨rfl, o1, b1, z1⟩
          obtain ⟨bf, hbf⟩ : ∃ bf, W2.heap.size = bf := ⟨_, rfl⟩
          rw [hbf] at o1 z1 ⊢
          have M3 := Lib.hid o1
          have Gf := Lib.hid (show w.heap.size ≤ bf by rw [← hbf]; exact B2.out.size)
          clear z1
          have O1 := Lib.hid (own_below O1.out b1)
          have O2 := Lib.hid (own_below O2.out b1)
          have B3 := Lib.hid (B2.out.trans (b1.mono B2.out.size)); have Bd3 := Lib.hid (Bd2.out.trans (b1.mono Bd2.out.size))
          clear b1 o1 hbf
          refine hK _ _ ⟨hSi Bd3.out _, ?_⟩
          clear hK hi
          try simp only [List.getElem_toArray, List.getElem_cons_zero, List.getElem_cons_succ, Act.put, List.setIfInBounds_toArray, List.set_cons_zero, List.set_cons_succ]
          refine WA.one (i := 15) (by kernel_rfl) rfl (by rfl) (fun K hK => ?_)
          go_simp
          have b1 : Below W3.heap.size W3 (W3.alloc (.map #[] 0)) := (Below.refl _ _).alloc (Nat.le_refl _) _
          have m4 := MapAt.made (enc := rv) (ok := rok) W3
          obtain ⟨W4, hV⟩ : ∃ V, V = W3.alloc (.map #[] 0) := ⟨_, rfl⟩
          rw [← hV] at b1 m4 ⊢
          obtain ⟨bb, hbb⟩ : ∃ bb, W3.heap.size = bb := ⟨_, rfl⟩
          rw [hbb] at m4 ⊢
          have M4 := Lib.hid m4
          have Gb := Lib.hid (show w.heap.size ≤ bb by rw [← hbb]; exact B3.out.size)
          have Nf := Lib.hid (show bf ≠ bb by have := M3.out.lt; omega)
          clear hV m4
          have O1 := Lib.hid (own_below O1.out b1)
          have O2 := Lib.hid (own_below O2.out b1)
          have M3 := Lib.hid (M3.out.stay (b1.block _ M3.out.lt))
          have B4 := Lib.hid (B3.out.trans (b1.mono B3.out.size)); have Bd4 := Lib.hid (Bd3.out.trans (b1.mono Bd3.out.size))
          clear b1 hbb
          refine hK _ _ (hSi Bd4.out _) ?_
          clear hK
          try simp only [List.getElem_toArray, List.getElem_cons_zero, List.getElem_cons_succ, Act.put, List.setIfInBounds_toArray, List.set_cons_zero, List.set_cons_succ]
          refine WA.take (i := 20) (v := .agg #[.slice a1 T.length k1, .slice a2 T.length k2, .map (some bf), .map (some bb), .map none, .map none, .map none, .int .i64 (live T)]) rfl (by kernel_rfl) (by kernel_rfl) (by kernel_rfl) (fun _ _ _ h => h) (hdrop 20) (Or.inl ⟨by rfl, ?_⟩) (hSi Bd4.out _) ?_
          · rintro w' ⟨L, hL, hSw, hun⟩
            go_simp
          simp only [List.getElem_toArray, List.getElem_cons_zero, List.getElem_cons_succ, Act.put, List.setIfInBounds_toArray, List.set_cons_zero, List.set_cons_succ]
          refine WA.one (i := 21) (by kernel_rfl) rfl (by rfl) (fun K hK => ?_)
          go_simp
          have b1 : Below W4.heap.size W4 (W4.alloc (.cells #[.slice a1 T.length k1, .slice a2 T.length k2, .map (some bf), .map (some bb), .map none, .map none, .map none, .int .i64 (live T)] 61)) := (Below.refl _ _).alloc (Nat.le_refl _) _
          have ho5 := World.alloc_heap_new W4 (.cells #[.slice a1 T.length k1, .slice a2 T.length k2, .map (some bf), .map (some bb), .map none, .map none, .map none, .int .i64 (live T)] 61)
          obtain ⟨V, hV⟩ : ∃ V, V = W4.alloc (.cells #[.slice a1 T.length k1, .slice a2 T.length k2, .map (some bf), .map (some bb), .map none, .map none, .map none, .int .i64 (live T)] 61) := ⟨_, rfl⟩
          rw [← hV] at b1 ho5 ⊢
          obtain ⟨ob, hob⟩ : ∃ ob, W4.heap.size = ob := ⟨_, rfl⟩
          rw [hob] at ho5 ⊢
          have HC := Lib.hid (show CopyA w.heap.size w T ob (.slice a1 T.length k1) (.slice a2 T.length k2) bf bb (live T) (fun _ => none) V from
            ⟨ho5, own_below O1.out b1, own_below O2.out b1, M3.out.stay (b1.block _ M3.out.lt), M4.out.stay (b1.block _ M4.out.lt), ⟨by rw [← hob]; exact B4.out.size, Gf.out, Gb.out⟩, Nf.out, B4.out.trans (b1.mono B4.out.size)⟩)
          have Bd5 := Lib.hid (Bd4.out.trans (b1.mono Bd4.out.size))
          clear hV b1 ho5 hob
          refine hK _ _ (hSi Bd5.out _) ?_
          clear hK
          try simp only [List.getElem_toArray, List.getElem_cons_zero, List.getElem_cons_succ, Act.put, List.setIfInBounds_toArray, List.set_cons_zero, List.set_cons_succ]
          refine WA.take (i := 22) (v := .pointer (some ⟨ob, 0, none⟩)) rfl (by kernel_rfl) (by kernel_rfl) (by kernel_rfl) (fun _ _ _ h => h) (hdrop 22) (Or.inl ⟨by rfl, ?_⟩) (hSi Bd5.out _) ?_
          · rintro w' ⟨L, hL, hSw, hun⟩
            go_simp
          simp only [List.getElem_toArray, List.getElem_cons_zero, List.getElem_cons_succ, Act.put, List.setIfInBounds_toArray, List.set_cons_zero, List.set_cons_succ]
          refine WA.done (by kernel_rfl) ?_ _
          refine Nrm.normal ?_
          go_wp2_with fail
          go_meet
          exact ⟨_, _, _, _, _, rfl, HC.out⟩
        · refine wpOp_go rfl (by rfl) (fun K hK => ?_)
          go_simp
          have b1 : Below W2.heap.size W2 (W2.alloc (.map #[] 0)) := (Below.refl _ _).alloc (Nat.le_refl _) _
          have m4 := MapAt.made (enc := rv) (ok := rok) W2
          obtain ⟨W3, hV⟩ : ∃ V, V = W2.alloc (.map #[] 0) := ⟨_, rfl⟩
          rw [← hV] at b1 m4 ⊢
          obtain ⟨bb, hbb⟩ : ∃ bb, W2.heap.size = bb := ⟨_, rfl⟩
          rw [hbb] at m4 ⊢
          have M4 := Lib.hid m4
          have Gb := Lib.hid (show w.heap.size ≤ bb by rw [← hbb]; exact B2.out.size)
          clear hV m4
          have O1 := Lib.hid (own_below O1.out b1)
          have O2 := Lib.hid (own_below O2.out b1)
          have B3 := Lib.hid (B2.out.trans (b1.mono B2.out.size)); have Bd3 := Lib.hid (Bd2.out.trans (b1.mono Bd2.out.size))
          clear b1 hbb
          refine hK _ _ ⟨hSi Bd3.out _, ?_⟩
          clear hK hi
          try simp only [List.getElem_toArray, List.getElem_cons_zero, List.getElem_cons_succ, Act.put, List.setIfInBounds_toArray, List.set_cons_zero, List.set_cons_succ]
          refine WA.one (i := 14) (by kernel_rfl) rfl (by rfl) (fun K hK => ?_)
          go_simp
          refine (clone_find (H.out.find.stay (B3.out.block _ H.out.find.lt))).mono ?_
          rintro e W4 ⟨rfl, o1, b1, z1⟩
          obtain ⟨bf, hbf⟩ : ∃ bf, W3.heap.size = bf := ⟨_, rfl⟩
          rw [hbf] at o1 z1 ⊢
          have M3 := Lib.hid o1
          have Gf := Lib.hid (show w.heap.size ≤ bf by rw [← hbf]; exact B3.out.size)
          have Nf := Lib.hid (show bf ≠ bb by have := M4.out.lt; omega)
          clear z1
          have O1 := Lib.hid (own_below O1.out b1)
          have O2 := Lib.hid (own_below O2.out b1)
          have M4 := Lib.hid (M4.out.stay (b1.block _ M4.out.lt))
          have B4 := Lib.hid (B3.out.trans (b1.mono B3.out.size)); have Bd4 := Lib.hid (Bd3.out.trans (b1.mono Bd3.out.size))
          clear b1 o1 hbf
          refine hK _ _ (hSi Bd4.out _) ?_
          clear hK
          try simp only [List.getElem_toArray, List.getElem_cons_zero, List.getElem_cons_succ, Act.put, List.setIfInBounds_toArray, List.set_cons_zero, List.set_cons_succ]
          refine WA.take (i := 20) (v := .agg #[.slice a1 T.length k1, .slice a2 T.length k2, .map (some bf), .map (some bb), .map none, .map none, .map none, .int .i64 (live T)]) rfl (by kernel_rfl) (by kernel_rfl) (by kernel_rfl) (fun _ _ _ h => h) (hdrop 20) (Or.inl ⟨by rfl, ?_⟩) (hSi Bd4.out _) ?_
          · rintro w' ⟨L, hL, hSw, hun⟩
            go_simp
          simp only [List.getElem_toArray, List.getElem_cons_zero, List.getElem_cons_succ, Act.put, List.setIfInBounds_toArray, List.set_cons_zero, List.set_cons_succ]
          refine WA.one (i := 21) (by kernel_rfl) rfl (by rfl) (fun K hK => ?_)
          go_simp
          have b1 : Below W4.heap.size W4 (W4.alloc (.cells #[.slice a1 T.length k1, .slice a2 T.length k2, .map (some bf), .map (some bb), .map none, .map none, .map none, .int .i64 (live T)] 61)) := (Below.refl _ _).alloc (Nat.le_refl _) _
          have ho5 := World.alloc_heap_new W4 (.cells #[.slice a1 T.length k1, .slice a2 T.length k2, .map (some bf), .map (some bb), .map none, .map none, .map none, .int .i64 (live T)] 61)
          obtain ⟨V, hV⟩ : ∃ V, V = W4.alloc (.cells #[.slice a1 T.length k1, .slice a2 T.length k2, .map (some bf), .map (some bb), .map none, .map none, .map none, .int .i64 (live T)] 61) := ⟨_, rfl⟩
          rw [← hV] at b1 ho5 ⊢
          obtain ⟨ob, hob⟩ : ∃ ob, W4.heap.size = ob := ⟨_, rfl⟩
          rw [hob] at ho5 ⊢
          have HC := Lib.hid (show CopyA w.heap.size w T ob (.slice a1 T.length k1) (.slice a2 T.length k2) bf bb (live T) (fun _ => none) V from
            ⟨ho5, own_below O1.out b1, own_below O2.out b1, M3.out.stay (b1.block _ M3.out.lt), M4.out.stay (b1.block _ M4.out.lt), ⟨by rw [← hob]; exact B4.out.size, Gf.out, Gb.out⟩, Nf.out, B4.out.trans (b1.mono B4.out.size)⟩)
          have Bd5 := Lib.hid (Bd4.out.trans (b1.mono Bd4.out.size))
          clear hV b1 ho5 hob
          refine hK _ _ (hSi Bd5.out _) ?_
          clear hK
          try simp only [List.getElem_toArray, List.getElem_cons_zero, List.getElem_cons_succ, Act.put, List.setIfInBounds_toArray, List.set_cons_zero, List.set_cons_succ]
          refine WA.take (i := 22) (v := .pointer (some ⟨ob, 0, none⟩)) rfl (by kernel_rfl) (by kernel_rfl) (by kernel_rfl) (fun _ _ _ h => h) (hdrop 22) (Or.inl ⟨by rfl, ?_⟩) (hSi Bd5.out _) ?_
          · rintro w' ⟨L, hL, hSw, hun⟩
            go_simp
          simp only [List.getElem_toArray, List.getElem_cons_zero, List.getElem_cons_succ, Act.put, List.setIfInBounds_toArray, List.set_cons_zero, List.set_cons_succ]
          refine WA.done (by kernel_rfl) ?_ _
          refine Nrm.normal ?_
          go_wp2_with fail
          go_meet
          exact ⟨_, _, _, _, _, rfl, HC.out⟩
      · refine wpOp_go rfl (by rfl) (fun K hK => ?_)
        go_simp
        have b1 : Below W1.heap.size W1 (W1.alloc (.map #[] 0)) := (Below.refl _ _).alloc (Nat.le_refl _) _
        have m4 := MapAt.made (enc := rv) (ok := rok) W1
        obtain ⟨W2, hV⟩ : ∃ V, V = W1.alloc (.map #[] 0) := ⟨_, rfl⟩
        rw [← hV] at b1 m4 ⊢
        obtain ⟨bb, hbb⟩ : ∃ bb, W1.heap.size = bb := ⟨_, rfl⟩
        rw [hbb] at m4 ⊢
        have M4 := Lib.hid m4
        have Gb := Lib.hid (show w.heap.size ≤ bb by rw [← hbb]; exact B1.out.size)
        clear hV m4
        have O1 := Lib.hid (own_below O1.out b1)
        have B2 := Lib.hid (B1.out.trans (b1.mono B1.out.size)); have Bd2 := Lib.hid (Bd1.out.trans (b1.mono Bd1.out.size))
        clear b1 hbb
        refine hK _ _ ⟨hSi Bd2.out _, ?_⟩
        clear hK hi
        try simp only [List.getElem_toArray, List.getElem_cons_zero, List.getElem_cons_succ, Act.put, List.setIfInBounds_toArray, List.set_cons_zero, List.set_cons_succ]
        refine WA.one (i := 9) (by kernel_rfl) rfl (by rfl) (fun K hK => ?_)
        go_simp
        refine (clone_bits (H.out.bits.below B2.out) (bcs_one T) hlong).mono ?_
        rintro e W3 ⟨v2, rfl, o1, b1⟩
        obtain ⟨a2, k2, rfl⟩ := own_any o1
        have O2 := Lib.hid (own_mono o1 B2.out.size)
        have O1 := Lib.hid (own_below O1.out b1)
        have M4 := Lib.hid (M4.out.stay (b1.block _ M4.out.lt))
        have B3 := Lib.hid (B2.out.trans (b1.mono B2.out.size)); have Bd3 := Lib.hid (Bd2.out.trans (b1.mono Bd2.out.size))
        clear b1 o1
        refine hK _ _ (hSi Bd3.out _) ?_
        clear hK
        try simp only [List.getElem_toArray, List.getElem_cons_zero, List.getElem_cons_succ, Act.put, List.setIfInBounds_toArray, List.set_cons_zero, List.set_cons_succ]
        refine WA.one (i := 14) (by kernel_rfl) rfl (by rfl) (fun K hK => ?_)
        go_simp
        refine (clone_find (H.out.find.stay (B3.out.block _ H.out.find.lt))).mono ?_
        rintro e W4 ⟨rfl, o1, b1, z1⟩
        obtain ⟨bf, hbf⟩ : ∃ bf, W3.heap.size = bf := ⟨_, rfl⟩
        rw [hbf] at o1 z1 ⊢
        have M3 := Lib.hid o1
        have Gf := Lib.hid (show w.heap.size ≤ bf by rw [← hbf]; exact B3.out.size)
        have Nf := Lib.hid (show bf ≠ bb by have := M4.out.lt; omega)
        clear z1
        have O1 := Lib.hid (own_below O1.out b1)
        have O2 := Lib.hid (own_below O2.out b1)
        have M4 := Lib.hid (M4.out.stay (b1.block _ M4.out.lt))
        have B4 := Lib.hid (B3.out.trans (b1.mono B3.out.size)); have Bd4 := Lib.hid (Bd3.out.trans (b1.mono Bd3.out.size))
        clear b1 o1 hbf
        refine hK _ _ (hSi Bd4.out _) ?_
        clear hK
        try simp only [List.getElem_toArray, List.getElem_cons_zero, List.getElem_cons_succ, Act.put, List.setIfInBounds_toArray, List.set_cons_zero, List.set_cons_succ]
        refine WA.take (i := 20) (v := .agg #[.slice a1 T.length k1, .slice a2 T.length k2, .map (some bf), .map (some bb), .map none, .map none, .map none, .int .i64 (live T)]) rfl (by kernel_rfl) (by kernel_rfl) (by kernel_rfl) (fun _ _ _ h => h) (hdrop 20) (Or.inl ⟨by rfl, ?_⟩) (hSi Bd4.out _) ?_
        · rintro w' ⟨L, hL, hSw, hun⟩
          go_simp
        simp only [List.getElem_toArray, List.getElem_cons_zero, List.getElem_cons_succ, Act.put, List.setIfInBounds_toArray, List.set_cons_zero, List.set_cons_succ]
        refine WA.one (i := 21) (by kernel_rfl) rfl (by rfl) (fun K hK => ?_)
        go_simp
        have b1 : Below W4.heap.size W4 (W4.alloc (.cells #[.slice a1 T.length k1, .slice a2 T.length k2, .map (some bf), .map (some bb), .map none, .map none, .map none, .int .i64 (live T)] 61)) := (Below.refl _ _).alloc (Nat.le_refl _) _
        have ho5 := World.alloc_heap_new W4 (.cells #[.slice a1 T.length k1, .slice a2 T.length k2, .map (some bf), .map (some bb), .map none, .map none, .map none, .int .i64 (live T)] 61)
        obtain ⟨V, hV⟩ : ∃ V, V = W4.alloc (.cells #[.slice a1 T.length k1, .slice a2 T.length k2, .map (some bf), .map (some bb), .map none, .map none, .map none, .int .i64 (live T)] 61) := ⟨_, rfl⟩
        rw [← hV] at b1 ho5 ⊢
        obtain ⟨ob, hob⟩ : ∃ ob, W4.heap.size = ob := ⟨_, rfl⟩
        rw [hob] at ho5 ⊢
        have HC := Lib.hid (show CopyA w.heap.size w T ob (.slice a1 T.length k1) (.slice a2 T.length k2) bf bb (live T) (fun _ => none) V from
          ⟨ho5, own_below O1.out b1, own_below O2.out b1, M3.out.stay (b1.block _ M3.out.lt), M4.out.stay (b1.block _ M4.out.lt), ⟨by rw [← hob]; exact B4.out.size, Gf.out, Gb.out⟩, Nf.out, B4.out.trans (b1.mono B4.out.size)⟩)
        have Bd5 := Lib.hid (Bd4.out.trans (b1.mono Bd4.out.size))
        clear hV b1 ho5 hob
        refine hK _ _ (hSi Bd5.out _) ?_
        clear hK
        try simp only [List.getElem_toArray, List.getElem_cons_zero, List.getElem_cons_succ, Act.put, List.setIfInBounds_toArray, List.set_cons_zero, List.set_cons_succ]
        refine WA.take (i := 22) (v := .pointer (some ⟨ob, 0, none⟩)) rfl (by kernel_rfl) (by kernel_rfl) (by kernel_rfl) (fun _ _ _ h => h) (hdrop 22) (Or.inl ⟨by rfl, ?_⟩) (hSi Bd5.out _) ?_
        · rintro w' ⟨L, hL, hSw, hun⟩
          go_simp
        simp only [List.getElem_toArray, List.getElem_cons_zero, List.getElem_cons_succ, Act.put, List.setIfInBounds_toArray, List.set_cons_zero, List.set_cons_succ]
        refine WA.done (by kernel_rfl) ?_ _
        refine Nrm.normal ?_
        go_wp2_with fail
        go_meet
        exact ⟨_, _, _, _, _, rfl, HC.out⟩
    · refine wpOp_go rfl (by rfl) (fun K hK => ?_)
      go_simp
      have b1 : Below W0.heap.size W0 (W0.alloc (.map #[] 0)) := (Below.refl _ _).alloc (Nat.le_refl _) _
      have m4 := MapAt.made (enc := rv) (ok := rok) W0
      obtain ⟨W1, hV⟩ : ∃ V, V = W0.alloc (.map #[] 0) := ⟨_, rfl⟩
      rw [← hV] at b1 m4 ⊢
      obtain ⟨bb, hbb⟩ : ∃ bb, W0.heap.size = bb := ⟨_, rfl⟩
      rw [hbb] at m4 ⊢
      have M4 := Lib.hid m4
      have Gb := Lib.hid (show w.heap.size ≤ bb by rw [← hbb]; exact B0.out.size)
      clear hV m4
      have B1 := Lib.hid (B0.out.trans (b1.mono B0.out.size)); have Bd1 := Lib.hid (Bd0.out.trans (b1.mono Bd0.out.size))
      clear b1 hbb
      refine hK _ _ ⟨hSi Bd1.out _, ?_⟩
      clear hK hi
      try simp only [List.getElem_toArray, List.getElem_cons_zero, List.getElem_cons_succ, Act.put, List.setIfInBounds_toArray, List.set_cons_zero, List.set_cons_succ]
      refine WA.one (i := 4) (by kernel_rfl) rfl (by rfl) (fun K hK => ?_)
      go_simp
      refine (clone_rows (H.out.rows.below B1.out) (rcs_one T) hlong).mono ?_
      rintro e W2 ⟨v1, rfl, o1, b1⟩
      obtain ⟨a1, k1, rfl⟩ := own_any o1
      have O1 := Lib.hid (own_mono o1 B1.out.size)
      have M4 := Lib.hid (M4.out.stay (b1.block _ M4.out.lt))
      have B2 := Lib.hid (B1.out.trans (b1.mono B1.out.size)); have Bd2 := Lib.hid (Bd1.out.trans (b1.mono Bd1.out.size))
      clear b1 o1
      refine hK _ _ (hSi Bd2.out _) ?_
      clear hK
      try simp only [List.getElem_toArray, List.getElem_cons_zero, List.getElem_cons_succ, Act.put, List.setIfInBounds_toArray, List.set_cons_zero, List.set_cons_succ]
      refine WA.one (i := 9) (by kernel_rfl) rfl (by rfl) (fun K hK => ?_)
      go_simp
      refine (clone_bits (H.out.bits.below B2.out) (bcs_one T) hlong).mono ?_
      rintro e W3 ⟨v2, rfl, o1, b1⟩
      obtain ⟨a2, k2, rfl⟩ := own_any o1
      have O2 := Lib.hid (own_mono o1 B2.out.size)
      have O1 := Lib.hid (own_below O1.out b1)
      have M4 := Lib.hid (M4.out.stay (b1.block _ M4.out.lt))
      have B3 := Lib.hid (B2.out.trans (b1.mono B2.out.size)); have Bd3 := Lib.hid (Bd2.out.trans (b1.mono Bd2.out.size))
      clear b1 o1
      refine hK _ _ (hSi Bd3.out _) ?_
      clear hK
      try simp only [List.getElem_toArray, List.getElem_cons_zero, List.getElem_cons_succ, Act.put, List.setIfInBounds_toArray, List.set_cons_zero, List.set_cons_succ]
      refine WA.one (i := 14) (by kernel_rfl) rfl (by rfl) (fun K hK => ?_)
      go_simp
      refine (clone_find (H.out.find.stay (B3.out.block _ H.out.find.lt))).mono ?_
      rintro e W4 ⟨rfl, o1, b1, z1⟩
      obtain ⟨bf, hbf⟩ : ∃ bf, W3.heap.size = bf := ⟨_, rfl⟩
      rw [hbf] at o1 z1 ⊢
      have M3 := Lib.hid o1
      have Gf := Lib.hid (show w.heap.size ≤ bf by rw [← hbf]; exact B3.out.size)
      have Nf := Lib.hid (show bf ≠ bb by have := M4.out.lt; omega)
      clear z1
      have O1 := Lib.hid (own_below O1.out b1)
      have O2 := Lib.hid (own_below O2.out b1)
      have M4 := Lib.hid (M4.out.stay (b1.block _ M4.out.lt))
      have B4 := Lib.hid (B3.out.trans (b1.mono B3.out.size)); have Bd4 := Lib.hid (Bd3.out.trans (b1.mono Bd3.out.size))
      clear b1 o1 hbf
      refine hK _ _ (hSi Bd4.out _) ?_
      clear hK
      try simp only [List.getElem_toArray, List.getElem_cons_zero, List.getElem_cons_succ, Act.put, List.setIfInBounds_toArray, List.set_cons_zero, List.set_cons_succ]
      refine WA.take (i := 20) (v := .agg #[.slice a1 T.length k1, .slice a2 T.length k2, .map (some bf), .map (some bb), .map none, .map none, .map none, .int .i64 (live T)]) rfl (by kernel_rfl) (by kernel_rfl) (by kernel_rfl) (fun _ _ _ h => h) (hdrop 20) (Or.inl ⟨by rfl, ?_⟩) (hSi Bd4.out _) ?_
      · rintro w' ⟨L, hL, hSw, hun⟩
        go_simp
      simp only [List.getElem_toArray, List.getElem_cons_zero, List.getElem_cons_succ, Act.put, List.setIfInBounds_toArray, List.set_cons_zero, List.set_cons_succ]
      refine WA.one (i := 21) (by kernel_rfl) rfl (by rfl) (fun K hK => ?_)
      go_simp
      have b1 : Below W4.heap.size W4 (W4.alloc (.cells #[.slice a1 T.length k1, .slice a2 T.length k2, .map (some bf), .map (some bb), .map none, .map none, .map none, .int .i64 (live T)] 61)) := (Below.refl _ _).alloc (Nat.le_refl _) _
      have ho5 := World.alloc_heap_new W4 (.cells #[.slice a1 T.length k1, .slice a2 T.length k2, .map (some bf), .map (some bb), .map none, .map none, .map none, .int .i64 (live T)] 61)
      obtain ⟨V, hV⟩ : ∃ V, V = W4.alloc (.cells #[.slice a1 T.length k1, .slice a2 T.length k2, .map (some bf), .map (some bb), .map none, .map none, .map none, .int .i64 (live T)] 61) := ⟨_, rfl⟩
      rw [← hV] at b1 ho5 ⊢
      obtain ⟨ob, hob⟩ : ∃ ob, W4.heap.size = ob := ⟨_, rfl⟩
      rw [hob] at ho5 ⊢
      have HC := Lib.hid (show CopyA w.heap.size w T ob (.slice a1 T.length k1) (.slice a2 T.length k2) bf bb (live T) (fun _ => none) V from
        ⟨ho5, own_below O1.out b1, own_below O2.out b1, M3.out.stay (b1.block _ M3.out.lt), M4.out.stay (b1.block _ M4.out.lt), ⟨by rw [← hob]; exact B4.out.size, Gf.out, Gb.out⟩, Nf.out, B4.out.trans (b1.mono B4.out.size)⟩)
      have Bd5 := Lib.hid (Bd4.out.trans (b1.mono Bd4.out.size))
      clear hV b1 ho5 hob
      refine hK _ _ (hSi Bd5.out _) ?_
      clear hK
      try simp only [List.getElem_toArray, List.getElem_cons_zero, List.getElem_cons_succ, Act.put, List.setIfInBounds_toArray, List.set_cons_zero, List.set_cons_succ]
      refine WA.take (i := 22) (v := .pointer (some ⟨ob, 0, none⟩)) rfl (by kernel_rfl) (by kernel_rfl) (by kernel_rfl) (fun _ _ _ h => h) (hdrop 22) (Or.inl ⟨by rfl, ?_⟩) (hSi Bd5.out _) ?_
      · rintro w' ⟨L, hL, hSw, hun⟩
        go_simp
      simp only [List.getElem_toArray, List.getElem_cons_zero, List.getElem_cons_succ, Act.put, List.setIfInBounds_toArray, List.set_cons_zero, List.set_cons_succ]
      refine WA.done (by kernel_rfl) ?_ _
      refine Nrm.normal ?_
      go_wp2_with fail
      go_meet
      exact ⟨_, _, _, _, _, rfl, HC.out⟩
  case rest =>
    obtain ⟨ob, v1, v2, bf, bb, rfl, hC⟩ := hcut
    have HC := Lib.hid hC
    clear hC c0 c1 c2 c7
    have hlt0 := H.out.by_.lt
    have h3 := (H.out.below HC.out.bel).c3
    go_wp2_with (first | (at_range; refine wpList_range_it rfl _ 57 rfl Try.underlying57 rfl (H.out.by_.stay (HC.out.bel.block _ H.out.by_.lt)) ?_; intro w0 cnt0 hit0 hB0 hz0) | go_in)
    go_frame
    obtain ⟨r0, hr0⟩ : ∃ r0, wc.heap.size = r0 := ⟨_, rfl⟩
    rw [hr0] at hit0 hz0 ⊢
    have hcb := HC.out.bel.size
    have hof := (Array.getElem?_eq_some_iff.1 HC.out.obj).1
    have hbl := HC.out.by_.lt
    have hfl := HC.out.find.lt
    have Hne := Lib.hid (show w.heap.size ≤ r0 ∧ D.bb ≠ r0 ∧ bb ≠ r0 by omega)
    have Hr0 := Lib.hid (show ∀ i, (i = ob ∨ i = bf ∨ i = bb ∨ v1.ownBlock = some i ∨ v2.ownBlock = some i) → i ≠ r0 from fun i hi e => by have := (HC.out.bd i hi).1; omega)
    have Hbb0 := Lib.hid (show D.bb ≠ bb ∧ D.bb < w.heap.size by have := HC.out.ge; omega)
    have HC0 := Lib.hid (HC.out.below hB0)
    have Hit0 := Lib.hid hit0
    clear hit0 hB0 hz0 h3 hr0 hcb hof hbl hfl hlt0
    go_loopw [] (fun wr => ∃ (done : R3 → Prop) (cnt : Nat) (gb : R3 → Option Value), IterAt wr D.bb r0 D.mb done cnt ∧ CopyA w.heap.size w T ob v1 v2 bf bb (live T) gb wr ∧ ∀ x, rok x → (done x → gb x = clipO (D.mb x)) ∧ (¬ done x → gb x = none)) (fun wr => wr.rangeLeft D.bb r0)
    case atStart => exact ⟨_, _, _, Hit0.out, HC0.out, fun x _ => ⟨fun h => h.elim, fun _ => rfl⟩⟩
    case round =>
      obtain ⟨dn, cnt, gb, hit, hC, hgb⟩ := hrel
      have HC1 := Lib.hid hC; have Hit := Lib.hid hit; have Hgb := Lib.hid hgb
      clear hC hit hgb
      go_wp2_with (first | (at_next; refine wpList_next_it rfl _ rfl rfl Hit.out Hne.out.2.1 ?_ ?_) | go_in)
      · intro hc0 hall
        have hgall : ∀ x, rok x → clipO (D.mb x) = gb x := by
          intro x hx
          by_cases hd : dn x
          · exact ((Hgb.out x hx).1 hd).symm
          · have hm : D.mb x = none := by
              cases hm : D.mb x with
              | none => rfl
              | some v => exact absurd (hall x.1 x.2.1 x.2.2 hx (by rw [show ((x.1, x.2.1, x.2.2) : R3) = x from rfl, hm]; simp)) hd
            rw [(Hgb.out x hx).2 hd, hm]; rfl
        have HC2 := Lib.hid (HC1.out.toC hgall)
        clear hgall hall
        go_wp2_with fail
        go_loopw [49] (fun u wj => ∃ (j : Nat) (ba : Nat → Nat), j ≤ 3 ∧ u = .int .i64 j ∧ CopyC w.heap.size w T ob v1 v2 bf bb (live T) (fun x => clipO (D.mb x)) ba j wj) (fun u _ => 3 - (intOf u).toNat)
        case atStart => exact ⟨0, _, by omega, by rfl, HC2.out⟩
        case round =>
          obtain ⟨j, ba, hj, rfl, hC⟩ := hrel
          obtain ⟨wj, hwj⟩ : ∃ W, W = wr := ⟨_, rfl⟩
          rw [← hwj] at hC ⊢
          have HCj := Lib.hid hC
          clear hC hwj
          by_cases hj3 : j < 3
          · have hjj : j = 0 ∨ j = 1 ∨ j = 2 := by omega
            rcases hjj with rfl | rfl | rfl
            · have ca : wj.cell? ⟨tb, 4, none⟩ = _ := (H.out.below HCj.out.bel).ca 0 (by omega)
              go_wp2_with fail
              have ca : wj.drew.cell? ⟨tb, 4, none⟩ = _ := ca
              have HCd := Lib.hid (HCj.out.below (below_drew wj))
              obtain ⟨S11, hSe⟩ : ∃ S : Array Bool → World → Prop, S = fun L w' => L.getD 8 true = false → w' = wj.drew := ⟨_, rfl⟩
              have hdrop : ∀ i, i ≠ 8 → ∀ L w', S11 (L.setIfInBounds i true) w' → S11 L w' := by
                intro i hi L w'
                rw [hSe]
                intro h hl
                exact h (by rw [getD_set_ne true hi]; exact hl)
              have hS : ∀ L, S11 L wj.drew := by intro L; rw [hSe]; exact fun _ => rfl
              have hSo : ∀ {L w'}, S11 L w' → L.getD 8 true = false → w' = wj.drew := by intro L w' h hl; rw [hSe] at h; exact h hl
              have hSd : ∀ (L : Array Bool) X, L.getD 8 true = true → S11 L X := by
                intro L X h; rw [hSe]; intro h1; rw [h] at h1; cases h1
              clear hSe
              refine wp_region_LN S11 13 #[false, false, false, false, false, false, false, false, false, false, false, false, false] (by kernel_rfl) (by kernel_rfl) rfl ?_
              generalize wj.drew = wd at *
              refine WA.take (i := 0) (v := .pointer (some ⟨ob, 0, none⟩)) rfl (by kernel_rfl) (by kernel_rfl) (by kernel_rfl) (fun _ _ _ h => h) (hdrop 0 (by decide)) (Or.inl ⟨by rfl, ?_⟩) (hS _) ?_
              · rintro w' ⟨L, hL, hSw, hun⟩
                go_simp
              simp only [List.getElem_toArray, List.getElem_cons_zero, List.getElem_cons_succ, Act.put, List.setIfInBounds_toArray, List.set_cons_zero, List.set_cons_succ]
              refine WA.take (i := 1) (v := .int .i64 0) rfl (by kernel_rfl) (by kernel_rfl) (by kernel_rfl) (fun _ _ _ h => h) (hdrop 1 (by decide)) (Or.inl ⟨by rfl, ?_⟩) (hS _) ?_
              · rintro w' ⟨L, hL, hSw, hun⟩
                go_simp
              simp only [List.getElem_toArray, List.getElem_cons_zero, List.getElem_cons_succ, Act.put, List.setIfInBounds_toArray, List.set_cons_zero, List.set_cons_succ]
              refine WA.take (i := 2) (v := .pointer (some ⟨tb, 0, none⟩)) rfl (by kernel_rfl) (by kernel_rfl) (by kernel_rfl) (fun _ _ _ h => h) (hdrop 2 (by decide)) (Or.inl ⟨by rfl, ?_⟩) (hS _) ?_
              · rintro w' ⟨L, hL, hSw, hun⟩
                go_simp
              simp only [List.getElem_toArray, List.getElem_cons_zero, List.getElem_cons_succ, Act.put, List.setIfInBounds_toArray, List.set_cons_zero, List.set_cons_succ]
              refine WA.take (i := 3) (v := .int .i64 0) rfl (by kernel_rfl) (by kernel_rfl) (by kernel_rfl) (fun _ _ _ h => h) (hdrop 3 (by decide)) (Or.inl ⟨by rfl, ?_⟩) (hS _) ?_
              · rintro w' ⟨L, hL, hSw, hun⟩
                go_simp
              simp only [List.getElem_toArray, List.getElem_cons_zero, List.getElem_cons_succ, Act.put, List.setIfInBounds_toArray, List.set_cons_zero, List.set_cons_succ]
              refine WA.take (i := 4) (v := .pointer (some ⟨tb, 0, none⟩)) rfl (by kernel_rfl) (by kernel_rfl) (by kernel_rfl) (fun _ _ _ h => h) (hdrop 4 (by decide)) (Or.inl ⟨by rfl, ?_⟩) (hS _) ?_
              · rintro w' ⟨L, hL, hSw, hun⟩
                go_simp
              simp only [List.getElem_toArray, List.getElem_cons_zero, List.getElem_cons_succ, Act.put, List.setIfInBounds_toArray, List.set_cons_zero, List.set_cons_succ]
              refine WA.take (i := 5) (v := .pointer (some ⟨tb, 4, none⟩)) rfl (by kernel_rfl) (by kernel_rfl) (by kernel_rfl) (fun _ _ _ h => h) (hdrop 5 (by decide)) (Or.inl ⟨by rfl, ?_⟩) (hS _) ?_
              · rintro w' ⟨L, hL, hSw, hun⟩
                go_simp
              simp only [List.getElem_toArray, List.getElem_cons_zero, List.getElem_cons_succ, Act.put, List.setIfInBounds_toArray, List.set_cons_zero, List.set_cons_succ]
              refine WA.take (i := 6) (v := .pointer (some ⟨tb, 4, none⟩)) rfl (by kernel_rfl) (by kernel_rfl) (by kernel_rfl) (fun _ _ _ h => h) (hdrop 6 (by decide)) (Or.inl ⟨by rfl, ?_⟩) (hS _) ?_
              · rintro w' ⟨L, hL, hSw, hun⟩
                go_simp
              simp only [List.getElem_toArray, List.getElem_cons_zero, List.getElem_cons_succ, Act.put, List.setIfInBounds_toArray, List.set_cons_zero, List.set_cons_succ]
              refine WA.take (i := 7) (v := .map (some (D.ba 0))) rfl (by kernel_rfl) (by kernel_rfl) (by kernel_rfl) (fun _ _ _ h => h) (hdrop 7 (by decide)) (Or.inl ⟨by rfl, ?_⟩) (hS _) ?_
              · rintro w' ⟨L, hL, hSw, hun⟩
                obtain rfl := hSo hSw (hL.wait 8 7 (by kernel_rfl) hun)
                go_simp
              simp only [List.getElem_toArray, List.getElem_cons_zero, List.getElem_cons_succ, Act.put, List.setIfInBounds_toArray, List.set_cons_zero, List.set_cons_succ]
              refine WA.take (i := 9) (v := .pointer (some ⟨ob, 0, none⟩)) rfl (by kernel_rfl) (by kernel_rfl) (by kernel_rfl) (fun _ _ _ h => h) (hdrop 9 (by decide)) (Or.inl ⟨by rfl, ?_⟩) (hS _) ?_
              · rintro w' ⟨L, hL, hSw, hun⟩
                go_simp
              simp only [List.getElem_toArray, List.getElem_cons_zero, List.getElem_cons_succ, Act.put, List.setIfInBounds_toArray, List.set_cons_zero, List.set_cons_succ]
              refine WA.take (i := 10) (v := .pointer (some ⟨ob, 4, none⟩)) rfl (by kernel_rfl) (by kernel_rfl) (by kernel_rfl) (fun _ _ _ h => h) (hdrop 10 (by decide)) (Or.inl ⟨by rfl, ?_⟩) (hS _) ?_
              · rintro w' ⟨L, hL, hSw, hun⟩
                go_simp
              simp only [List.getElem_toArray, List.getElem_cons_zero, List.getElem_cons_succ, Act.put, List.setIfInBounds_toArray, List.set_cons_zero, List.set_cons_succ]
              refine WA.one (i := 8) (by kernel_rfl) rfl (by rfl) (fun K hK => ?_)
              go_simp
              refine (clone_cnt ((H.out.at_ 0 (by omega)).stay (HCd.out.bel.block _ (H.out.at_ 0 (by omega)).lt))).mono ?_
              rintro e w3 ⟨rfl, m3, b3, z3⟩
              have hst := HCd.out.step (by omega) b3 m3 (Nat.le_refl _)
              have ho3 := (b3.block _ (Array.getElem?_eq_some_iff.1 HCd.out.obj).1).trans HCd.out.obj
              have co : (w3.cell? ⟨ob, 4, none⟩).isSome := by unfold World.cell?; rw [ho3]; rfl
              obtain ⟨u, hu⟩ := Option.isSome_iff_exists.1 co
              have fo : w3.frozen? ⟨ob, 4, none⟩ = false := by unfold World.frozen?; rw [ho3]; simp
              have Hst := Lib.hid hst
              clear m3 b3 z3 hst ho3 co
              refine hK _ _ (hSd _ _ (by rfl)) ?_
              clear hK
              try simp only [List.getElem_toArray, List.getElem_cons_zero, List.getElem_cons_succ, Act.put, List.setIfInBounds_toArray, List.set_cons_zero, List.set_cons_succ]
              refine WA.take (i := 11) (v := .pointer (some ⟨ob, 4, none⟩)) rfl (by kernel_rfl) (by kernel_rfl) (by kernel_rfl) (fun _ _ _ h => h) (hdrop 11 (by decide)) (Or.inl ⟨by rfl, ?_⟩) (hSd _ _ (by rfl)) ?_
              · rintro w' ⟨L, hL, hSw, hun⟩
                go_simp
              simp only [List.getElem_toArray, List.getElem_cons_zero, List.getElem_cons_succ, Act.put, List.setIfInBounds_toArray, List.set_cons_zero, List.set_cons_succ]
              refine WA.one (i := 12) (by kernel_rfl) rfl (by rfl) (fun K hK => ?_)
              go_simp
              refine hK _ _ (hSd _ _ (by rfl)) ?_
              clear hK
              try simp only [List.getElem_toArray, List.getElem_cons_zero, List.getElem_cons_succ, Act.put, List.setIfInBounds_toArray, List.set_cons_zero, List.set_cons_succ]
              refine WA.done (by kernel_rfl) ?_ _
              refine Nrm.normal ?_
              go_wp2_with fail
              exact ⟨⟨1, _, by omega, by rfl, Hst.out⟩, by simp [intOf]⟩
            · have ca : wj.cell? ⟨tb, 5, none⟩ = _ := (H.out.below HCj.out.bel).ca 1 (by omega)
              go_wp2_with fail
              have ca : wj.drew.cell? ⟨tb, 5, none⟩ = _ := ca
              have HCd := Lib.hid (HCj.out.below (below_drew wj))
              obtain ⟨S11, hSe⟩ : ∃ S : Array Bool → World → Prop, S = fun L w' => L.getD 8 true = false → w' = wj.drew := ⟨_, rfl⟩
              have hdrop : ∀ i, i ≠ 8 → ∀ L w', S11 (L.setIfInBounds i true) w' → S11 L w' := by
                intro i hi L w'
                rw [hSe]
                intro h hl
                exact h (by rw [getD_set_ne true hi]; exact hl)
              have hS : ∀ L, S11 L wj.drew := by intro L; rw [hSe]; exact fun _ => rfl
              have hSo : ∀ {L w'}, S11 L w' → L.getD 8 true = false → w' = wj.drew := by intro L w' h hl; rw [hSe] at h; exact h hl
              have hSd : ∀ (L : Array Bool) X, L.getD 8 true = true → S11 L X := by
                intro L X h; rw [hSe]; intro h1; rw [h] at h1; cases h1
              clear hSe
              refine wp_region_LN S11 13 #[false, false, false, false, false, false, false, false, false, false, false, false, false] (by kernel_rfl) (by kernel_rfl) rfl ?_
              generalize wj.drew = wd at *
              refine WA.take (i := 0) (v := .pointer (some ⟨ob, 0, none⟩)) rfl (by kernel_rfl) (by kernel_rfl) (by kernel_rfl) (fun _ _ _ h => h) (hdrop 0 (by decide)) (Or.inl ⟨by rfl, ?_⟩) (hS _) ?_
              · rintro w' ⟨L, hL, hSw, hun⟩
                go_simp
              simp only [List.getElem_toArray, List.getElem_cons_zero, List.getElem_cons_succ, Act.put, List.setIfInBounds_toArray, List.set_cons_zero, List.set_cons_succ]
              refine WA.take (i := 1) (v := .int .i64 1) rfl (by kernel_rfl) (by kernel_rfl) (by kernel_rfl) (fun _ _ _ h => h) (hdrop 1 (by decide)) (Or.inl ⟨by rfl, ?_⟩) (hS _) ?_
              · rintro w' ⟨L, hL, hSw, hun⟩
                go_simp
              simp only [List.getElem_toArray, List.getElem_cons_zero, List.getElem_cons_succ, Act.put, List.setIfInBounds_toArray, List.set_cons_zero, List.set_cons_succ]
              refine WA.take (i := 2) (v := .pointer (some ⟨tb, 0, none⟩)) rfl (by kernel_rfl) (by kernel_rfl) (by kernel_rfl) (fun _ _ _ h => h) (hdrop 2 (by decide)) (Or.inl ⟨by rfl, ?_⟩) (hS _) ?_
              · rintro w' ⟨L, hL, hSw, hun⟩
                go_simp
              simp only [List.getElem_toArray, List.getElem_cons_zero, List.getElem_cons_succ, Act.put, List.setIfInBounds_toArray, List.set_cons_zero, List.set_cons_succ]
              refine WA.take (i := 3) (v := .int .i64 1) rfl (by kernel_rfl) (by kernel_rfl) (by kernel_rfl) (fun _ _ _ h => h) (hdrop 3 (by decide)) (Or.inl ⟨by rfl, ?_⟩) (hS _) ?_
              · rintro w' ⟨L, hL, hSw, hun⟩
                go_simp
              simp only [List.getElem_toArray, List.getElem_cons_zero, List.getElem_cons_succ, Act.put, List.setIfInBounds_toArray, List.set_cons_zero, List.set_cons_succ]
              refine WA.take (i := 4) (v := .pointer (some ⟨tb, 0, none⟩)) rfl (by kernel_rfl) (by kernel_rfl) (by kernel_rfl) (fun _ _ _ h => h) (hdrop 4 (by decide)) (Or.inl ⟨by rfl, ?_⟩) (hS _) ?_
              · rintro w' ⟨L, hL, hSw, hun⟩
                go_simp
              simp only [List.getElem_toArray, List.getElem_cons_zero, List.getElem_cons_succ, Act.put, List.setIfInBounds_toArray, List.set_cons_zero, List.set_cons_succ]
              refine WA.take (i := 5) (v := .pointer (some ⟨tb, 4, none⟩)) rfl (by kernel_rfl) (by kernel_rfl) (by kernel_rfl) (fun _ _ _ h => h) (hdrop 5 (by decide)) (Or.inl ⟨by rfl, ?_⟩) (hS _) ?_
              · rintro w' ⟨L, hL, hSw, hun⟩
                go_simp
              simp only [List.getElem_toArray, List.getElem_cons_zero, List.getElem_cons_succ, Act.put, List.setIfInBounds_toArray, List.set_cons_zero, List.set_cons_succ]
              refine WA.take (i := 6) (v := .pointer (some ⟨tb, 5, none⟩)) rfl (by kernel_rfl) (by kernel_rfl) (by kernel_rfl) (fun _ _ _ h => h) (hdrop 6 (by decide)) (Or.inl ⟨by rfl, ?_⟩) (hS _) ?_
              · rintro w' ⟨L, hL, hSw, hun⟩
                go_simp
              simp only [List.getElem_toArray, List.getElem_cons_zero, List.getElem_cons_succ, Act.put, List.setIfInBounds_toArray, List.set_cons_zero, List.set_cons_succ]
              refine WA.take (i := 7) (v := .map (some (D.ba 1))) rfl (by kernel_rfl) (by kernel_rfl) (by kernel_rfl) (fun _ _ _ h => h) (hdrop 7 (by decide)) (Or.inl ⟨by rfl, ?_⟩) (hS _) ?_
              · rintro w' ⟨L, hL, hSw, hun⟩
                obtain rfl := hSo hSw (hL.wait 8 7 (by kernel_rfl) hun)
                go_simp
              simp only [List.getElem_toArray, List.getElem_cons_zero, List.getElem_cons_succ, Act.put, List.setIfInBounds_toArray, List.set_cons_zero, List.set_cons_succ]
              refine WA.take (i := 9) (v := .pointer (some ⟨ob, 0, none⟩)) rfl (by kernel_rfl) (by kernel_rfl) (by kernel_rfl) (fun _ _ _ h => h) (hdrop 9 (by decide)) (Or.inl ⟨by rfl, ?_⟩) (hS _) ?_
              · rintro w' ⟨L, hL, hSw, hun⟩
                go_simp
              simp only [List.getElem_toArray, List.getElem_cons_zero, List.getElem_cons_succ, Act.put, List.setIfInBounds_toArray, List.set_cons_zero, List.set_cons_succ]
              refine WA.take (i := 10) (v := .pointer (some ⟨ob, 4, none⟩)) rfl (by kernel_rfl) (by kernel_rfl) (by kernel_rfl) (fun _ _ _ h => h) (hdrop 10 (by decide)) (Or.inl ⟨by rfl, ?_⟩) (hS _) ?_
              · rintro w' ⟨L, hL, hSw, hun⟩
                go_simp
              simp only [List.getElem_toArray, List.getElem_cons_zero, List.getElem_cons_succ, Act.put, List.setIfInBounds_toArray, List.set_cons_zero, List.set_cons_succ]
              refine WA.one (i := 8) (by kernel_rfl) rfl (by rfl) (fun K hK => ?_)
              go_simp
              refine (clone_cnt ((H.out.at_ 1 (by omega)).stay (HCd.out.bel.block _ (H.out.at_ 1 (by omega)).lt))).mono ?_
              rintro e w3 ⟨rfl, m3, b3, z3⟩
              have hst := HCd.out.step (by omega) b3 m3 (Nat.le_refl _)
              have ho3 := (b3.block _ (Array.getElem?_eq_some_iff.1 HCd.out.obj).1).trans HCd.out.obj
              have co : (w3.cell? ⟨ob, 5, none⟩).isSome := by unfold World.cell?; rw [ho3]; rfl
              obtain ⟨u, hu⟩ := Option.isSome_iff_exists.1 co
              have fo : w3.frozen? ⟨ob, 5, none⟩ = false := by unfold World.frozen?; rw [ho3]; simp
              have Hst := Lib.hid hst
              clear m3 b3 z3 hst ho3 co
              refine hK _ _ (hSd _ _ (by rfl)) ?_
              clear hK
              try simp only [List.getElem_toArray, List.getElem_cons_zero, List.getElem_cons_succ, Act.put, List.setIfInBounds_toArray, List.set_cons_zero, List.set_cons_succ]
              refine WA.take (i := 11) (v := .pointer (some ⟨ob, 5, none⟩)) rfl (by kernel_rfl) (by kernel_rfl) (by kernel_rfl) (fun _ _ _ h => h) (hdrop 11 (by decide)) (Or.inl ⟨by rfl, ?_⟩) (hSd _ _ (by rfl)) ?_
              · rintro w' ⟨L, hL, hSw, hun⟩
                go_simp
              simp only [List.getElem_toArray, List.getElem_cons_zero, List.getElem_cons_succ, Act.put, List.setIfInBounds_toArray, List.set_cons_zero, List.set_cons_succ]
              refine WA.one (i := 12) (by kernel_rfl) rfl (by rfl) (fun K hK => ?_)
              go_simp
              refine hK _ _ (hSd _ _ (by rfl)) ?_
              clear hK
              try simp only [List.getElem_toArray, List.getElem_cons_zero, List.getElem_cons_succ, Act.put, List.setIfInBounds_toArray, List.set_cons_zero, List.set_cons_succ]
              refine WA.done (by kernel_rfl) ?_ _
              refine Nrm.normal ?_
              go_wp2_with fail
              exact ⟨⟨2, _, by omega, by rfl, Hst.out⟩, by simp [intOf]⟩
            · have ca : wj.cell? ⟨tb, 6, none⟩ = _ := (H.out.below HCj.out.bel).ca 2 (by omega)
              go_wp2_with fail
              have ca : wj.drew.cell? ⟨tb, 6, none⟩ = _ := ca
              have HCd := Lib.hid (HCj.out.below (below_drew wj))
              obtain ⟨S11, hSe⟩ : ∃ S : Array Bool → World → Prop, S = fun L w' => L.getD 8 true = false → w' = wj.drew := ⟨_, rfl⟩
              have hdrop : ∀ i, i ≠ 8 → ∀ L w', S11 (L.setIfInBounds i true) w' → S11 L w' := by
                intro i hi L w'
                rw [hSe]
                intro h hl
                exact h (by rw [getD_set_ne true hi]; exact hl)
              have hS : ∀ L, S11 L wj.drew := by intro L; rw [hSe]; exact fun _ => rfl
              have hSo : ∀ {L w'}, S11 L w' → L.getD 8 true = false → w' = wj.drew := by intro L w' h hl; rw [hSe] at h; exact h hl
              have hSd : ∀ (L : Array Bool) X, L.getD 8 true = true → S11 L X := by
                intro L X h; rw [hSe]; intro h1; rw [h] at h1; cases h1
              clear hSe
              refine wp_region_LN S11 13 #[false, false, false, false, false, false, false, false, false, false, false, false, false] (by kernel_rfl) (by kernel_rfl) rfl ?_
              generalize wj.drew = wd at *
              refine WA.take (i := 0) (v := .pointer (some ⟨ob, 0, none⟩)) rfl (by kernel_rfl) (by kernel_rfl) (by kernel_rfl) (fun _ _ _ h => h) (hdrop 0 (by decide)) (Or.inl ⟨by rfl, ?_⟩) (hS _) ?_
              · rintro w' ⟨L, hL, hSw, hun⟩
                go_simp
              simp only [List.getElem_toArray, List.getElem_cons_zero, List.getElem_cons_succ, Act.put, List.setIfInBounds_toArray, List.set_cons_zero, List.set_cons_succ]
              refine WA.take (i := 1) (v := .int .i64 2) rfl (by kernel_rfl) (by kernel_rfl) (by kernel_rfl) (fun _ _ _ h => h) (hdrop 1 (by decide)) (Or.inl ⟨by rfl, ?_⟩) (hS _) ?_
              · rintro w' ⟨L, hL, hSw, hun⟩
                go_simp
              simp only [List.getElem_toArray, List.getElem_cons_zero, List.getElem_cons_succ, Act.put, List.setIfInBounds_toArray, List.set_cons_zero, List.set_cons_succ]
              refine WA.take (i := 2) (v := .pointer (some ⟨tb, 0, none⟩)) rfl (by kernel_rfl) (by kernel_rfl) (by kernel_rfl) (fun _ _ _ h => h) (hdrop 2 (by decide)) (Or.inl ⟨by rfl, ?_⟩) (hS _) ?_
              · rintro w' ⟨L, hL, hSw, hun⟩
                go_simp
              simp only [List.getElem_toArray, List.getElem_cons_zero, List.getElem_cons_succ, Act.put, List.setIfInBounds_toArray, List.set_cons_zero, List.set_cons_succ]
              refine WA.take (i := 3) (v := .int .i64 2) rfl (by kernel_rfl) (by kernel_rfl) (by kernel_rfl) (fun _ _ _ h => h) (hdrop 3 (by decide)) (Or.inl ⟨by rfl, ?_⟩) (hS _) ?_
              · rintro w' ⟨L, hL, hSw, hun⟩
                go_simp
              simp only [List.getElem_toArray, List.getElem_cons_zero, List.getElem_cons_succ, Act.put, List.setIfInBounds_toArray, List.set_cons_zero, List.set_cons_succ]
              refine WA.take (i := 4) (v := .pointer (some ⟨tb, 0, none⟩)) rfl (by kernel_rfl) (by kernel_rfl) (by kernel_rfl) (fun _ _ _ h => h) (hdrop 4 (by decide)) (Or.inl ⟨by rfl, ?_⟩) (hS _) ?_
              · rintro w' ⟨L, hL, hSw, hun⟩
                go_simp
              simp only [List.getElem_toArray, List.getElem_cons_zero, List.getElem_cons_succ, Act.put, List.setIfInBounds_toArray, List.set_cons_zero, List.set_cons_succ]
              refine WA.take (i := 5) (v := .pointer (some ⟨tb, 4, none⟩)) rfl (by kernel_rfl) (by kernel_rfl) (by kernel_rfl) (fun _ _ _ h => h) (hdrop 5 (by decide)) (Or.inl ⟨by rfl, ?_⟩) (hS _) ?_
              · rintro w' ⟨L, hL, hSw, hun⟩
                go_simp
              simp only [List.getElem_toArray, List.getElem_cons_zero, List.getElem_cons_succ, Act.put, List.setIfInBounds_toArray, List.set_cons_zero, List.set_cons_succ]
              refine WA.take (i := 6) (v := .pointer (some ⟨tb, 6, none⟩)) rfl (by kernel_rfl) (by kernel_rfl) (by kernel_rfl) (fun _ _ _ h => h) (hdrop 6 (by decide)) (Or.inl ⟨by rfl, ?_⟩) (hS _) ?_
              · rintro w' ⟨L, hL, hSw, hun⟩
                go_simp
              simp only [List.getElem_toArray, List.getElem_cons_zero, List.getElem_cons_succ, Act.put, List.setIfInBounds_toArray, List.set_cons_zero, List.set_cons_succ]
              refine WA.take (i := 7) (v := .map (some (D.ba 2))) rfl (by kernel_rfl) (by kernel_rfl) (by kernel_rfl) (fun _ _ _ h => h) (hdrop 7 (by decide)) (Or.inl ⟨by rfl, ?_⟩) (hS _) ?_
              · rintro w' ⟨L, hL, hSw, hun⟩
                obtain rfl := hSo hSw (hL.wait 8 7 (by kernel_rfl) hun)
                go_simp
              simp only [List.getElem_toArray, List.getElem_cons_zero, List.getElem_cons_succ, Act.put, List.setIfInBounds_toArray, List.set_cons_zero, List.set_cons_succ]
              refine WA.take (i := 9) (v := .pointer (some ⟨ob, 0, none⟩)) rfl (by kernel_rfl) (by kernel_rfl) (by kernel_rfl) (fun _ _ _ h => h) (hdrop 9 (by decide)) (Or.inl ⟨by rfl, ?_⟩) (hS _) ?_
              · rintro w' ⟨L, hL, hSw, hun⟩
                go_simp
              simp only [List.getElem_toArray, List.getElem_cons_zero, List.getElem_cons_succ, Act.put, List.setIfInBounds_toArray, List.set_cons_zero, List.set_cons_succ]
              refine WA.take (i := 10) (v := .pointer (some ⟨ob, 4, none⟩)) rfl (by kernel_rfl) (by kernel_rfl) (by kernel_rfl) (fun _ _ _ h => h) (hdrop 10 (by decide)) (Or.inl ⟨by rfl, ?_⟩) (hS _) ?_
              · rintro w' ⟨L, hL, hSw, hun⟩
                go_simp
              simp only [List.getElem_toArray, List.getElem_cons_zero, List.getElem_cons_succ, Act.put, List.setIfInBounds_toArray, List.set_cons_zero, List.set_cons_succ]
              refine WA.one (i := 8) (by kernel_rfl) rfl (by rfl) (fun K hK => ?_)
              go_simp
              refine (clone_cnt ((H.out.at_ 2 (by omega)).stay (HCd.out.bel.block _ (H.out.at_ 2 (by omega)).lt))).mono ?_
              rintro e w3 ⟨rfl, m3, b3, z3⟩
              have hst := HCd.out.step (by omega) b3 m3 (Nat.le_refl _)
              have ho3 := (b3.block _ (Array.getElem?_eq_some_iff.1 HCd.out.obj).1).trans HCd.out.obj
              have co : (w3.cell? ⟨ob, 6, none⟩).isSome := by unfold World.cell?; rw [ho3]; rfl
              obtain ⟨u, hu⟩ := Option.isSome_iff_exists.1 co
              have fo : w3.frozen? ⟨ob, 6, none⟩ = false := by unfold World.frozen?; rw [ho3]; simp
              have Hst := Lib.hid hst
              clear m3 b3 z3 hst ho3 co
              refine hK _ _ (hSd _ _ (by rfl)) ?_
              clear hK
              try simp only [List.getElem_toArray, List.getElem_cons_zero, List.getElem_cons_succ, Act.put, List.setIfInBounds_toArray, List.set_cons_zero, List.set_cons_succ]
              refine WA.take (i := 11) (v := .pointer (some ⟨ob, 6, none⟩)) rfl (by kernel_rfl) (by kernel_rfl) (by kernel_rfl) (fun _ _ _ h => h) (hdrop 11 (by decide)) (Or.inl ⟨by rfl, ?_⟩) (hSd _ _ (by rfl)) ?_
              · rintro w' ⟨L, hL, hSw, hun⟩
                go_simp
              simp only [List.getElem_toArray, List.getElem_cons_zero, List.getElem_cons_succ, Act.put, List.setIfInBounds_toArray, List.set_cons_zero, List.set_cons_succ]
              refine WA.one (i := 12) (by kernel_rfl) rfl (by rfl) (fun K hK => ?_)
              go_simp
              refine hK _ _ (hSd _ _ (by rfl)) ?_
              clear hK
              try simp only [List.getElem_toArray, List.getElem_cons_zero, List.getElem_cons_succ, Act.put, List.setIfInBounds_toArray, List.set_cons_zero, List.set_cons_succ]
              refine WA.done (by kernel_rfl) ?_ _
              refine Nrm.normal ?_
              go_wp2_with fail
              exact ⟨⟨3, _, by omega, by rfl, Hst.out⟩, by simp [intOf]⟩
          · have hj' : j = 3 := by omega
            subst hj'
            go_wp2_with fail
            go_ret
            exact ⟨_, _, rfl, HCj.out.isT H.out, HCj.out.bel⟩
      · intro x0 x1 x2 v w1 cnt1 hx hfx hdx hit1 hlt1 hg1 hs1 hen
        obtain ⟨hne, hsl⟩ := H.out.byOk.has _ v hx hfx
        rcases hsl.form with ⟨_, hz⟩ | ⟨g, cap, rfl, hgc, _, _⟩
        · exact absurd (List.eq_nil_of_length_eq_zero hz) hne
        have hlc : (lst T (x0, x1, x2)).length ≤ 1000000 := Nat.le_trans (lst_len _ _) hlong
        obtain ⟨n, hn⟩ : ∃ n, (lst T (x0, x1, x2)).length = n := ⟨_, rfl⟩
        rw [hn] at hgc hlc hfx hen ⊢
        simp only [rv] at hen ⊢
        have Hit1 := Lib.hid hit1; have Hlt1 := Lib.hid hlt1; have Hg1 := Lib.hid hg1; have Hs1 := Lib.hid hs1; have Hx := Lib.hid hx; have Hfx := Lib.hid hfx; have Hdx := Lib.hid hdx
        clear hit1 hlt1 hg1 hs1 hne hsl hn hx hfx hdx
        go_wp2_with fail
        obtain ⟨X, hX⟩ : ∃ X, X = w1.alloc (.cells #[.int .u32 x0, .int .u32 x1, .int .u32 x2] 25) := ⟨_, rfl⟩
        have bX : Below w1.heap.size w1 X := by rw [hX]; exact (Below.refl _ _).alloc (Nat.le_refl _) _
        have hXb := World.alloc_heap_new w1 (.cells #[.int .u32 x0, .int .u32 x1, .int .u32 x2] 25)
        rw [← hX] at hXb ⊢
        obtain ⟨cx0, cx1, cx2⟩ := box3_cell hXb
        have h1X : ∀ i, i < wr.heap.size → i ≠ r0 → X.heap[i]? = wr.heap[i]? := fun i hi hr => (bX.block i (by rw [Hs1.out]; exact hi)).trans (Hg1.out.block i hi (fun e => hr (by injection e)))
        have hBX : Below w.heap.size w X := (HC1.out.bel.grown Hg1.out HC1.out.bel.size (fun j hj => by injection hj with hj; rw [← hj]; exact Hne.out.1)).trans (bX.mono (by rw [Hs1.out]; exact HC1.out.bel.size))
        have HCX := Lib.hid (HC1.out.turn (wy := X) (gb' := gb) (fun i hi => h1X i (HC1.out.bd i (by rcases hi with h | h | h | h <;> simp [h])).1 (Hr0.out i (by rcases hi with h | h | h | h <;> simp [h]))) (HC1.out.by_.stay (h1X bb HC1.out.by_.lt Hne.out.2.2)) hBX)
        have hiX := Hit1.out.keep (w' := X) (bX.block _ Hit1.out.lt.1) (bX.block _ Hit1.out.lt.2)
        have HiX := Lib.hid hiX
        have co3 : X.cell? ⟨ob, 3, none⟩ = some (.map (some bb)) := by unfold World.cell?; rw [HCX.out.obj]; rfl
        clear hX bX hXb h1X hBX hiX
        have cx0 : X.drew.cell? ⟨w1.heap.size, 0, none⟩ = _ := cx0
        have cx1 : X.drew.cell? ⟨w1.heap.size, 1, none⟩ = _ := cx1
        have cx2 : X.drew.cell? ⟨w1.heap.size, 2, none⟩ = _ := cx2
        have co3 : X.drew.cell? ⟨ob, 3, none⟩ = _ := co3
        have HCXd := Lib.hid (HCX.out.below (below_drew X))
        have HiXd := Lib.hid (HiX.out.keep (w' := X.drew) rfl rfl)
        obtain ⟨S7, hSe⟩ : ∃ S : Array Bool → World → Prop, S = fun L w' => L.getD 7 true = false → w' = X.drew := ⟨_, rfl⟩
        have hdrop : ∀ i, i ≠ 7 → ∀ L w', S7 (L.setIfInBounds i true) w' → S7 L w' := by
          intro i hi L w'
          rw [hSe]
          intro h hl
          exact h (by rw [getD_set_ne true hi]; exact hl)
        have hS : ∀ L, S7 L X.drew := by intro L; rw [hSe]; exact fun _ => rfl
        have hSo : ∀ {L w'}, S7 L w' → L.getD 7 true = false → w' = X.drew := by intro L w' h hl; rw [hSe] at h; exact h hl
        have hSd : ∀ (L : Array Bool) X, L.getD 7 true = true → S7 L X := by
          intro L X h; rw [hSe]; intro h1; rw [h] at h1; cases h1
        clear hSe
        refine wp_region_LN S7 8 #[false, false, false, false, false, false, false, false] (by kernel_rfl) (by kernel_rfl) rfl ?_
        generalize X.drew = Xd at *
        refine WA.take (i := 0) (v := .pointer (some ⟨ob, 0, none⟩)) rfl (by kernel_rfl) (by kernel_rfl) (by kernel_rfl) (fun _ _ _ h => h) (hdrop 0 (by decide)) (Or.inl ⟨by rfl, ?_⟩) (hS _) ?_
        · rintro w' ⟨L, hL, hSw, hun⟩
          go_simp
        simp only [List.getElem_toArray, List.getElem_cons_zero, List.getElem_cons_succ, Act.put, List.setIfInBounds_toArray, List.set_cons_zero, List.set_cons_succ]
        refine WA.take (i := 1) (v := .pointer (some ⟨ob, 0, none⟩)) rfl (by kernel_rfl) (by kernel_rfl) (by kernel_rfl) (fun _ _ _ h => h) (hdrop 1 (by decide)) (Or.inl ⟨by rfl, ?_⟩) (hS _) ?_
        · rintro w' ⟨L, hL, hSw, hun⟩
          go_simp
        simp only [List.getElem_toArray, List.getElem_cons_zero, List.getElem_cons_succ, Act.put, List.setIfInBounds_toArray, List.set_cons_zero, List.set_cons_succ]
        refine WA.take (i := 2) (v := .pointer (some ⟨ob, 3, none⟩)) rfl (by kernel_rfl) (by kernel_rfl) (by kernel_rfl) (fun _ _ _ h => h) (hdrop 2 (by decide)) (Or.inl ⟨by rfl, ?_⟩) (hS _) ?_
        · rintro w' ⟨L, hL, hSw, hun⟩
          go_simp
        simp only [List.getElem_toArray, List.getElem_cons_zero, List.getElem_cons_succ, Act.put, List.setIfInBounds_toArray, List.set_cons_zero, List.set_cons_succ]
        refine WA.take (i := 3) (v := .map (some bb)) rfl (by kernel_rfl) (by kernel_rfl) (by kernel_rfl) (fun _ _ _ h => h) (hdrop 3 (by decide)) (Or.inl ⟨by rfl, ?_⟩) (hS _) ?_
        · rintro w' ⟨L, hL, hSw, hun⟩
          obtain rfl := hSo hSw (hL.wait 7 3 (by kernel_rfl) hun)
          go_simp
        simp only [List.getElem_toArray, List.getElem_cons_zero, List.getElem_cons_succ, Act.put, List.setIfInBounds_toArray, List.set_cons_zero, List.set_cons_succ]
        refine WA.take (i := 4) (v := .agg #[.int .u32 x0, .int .u32 x1, .int .u32 x2]) rfl (by kernel_rfl) (by kernel_rfl) (by kernel_rfl) (fun _ _ _ h => h) (hdrop 4 (by decide)) (Or.inl ⟨by rfl, ?_⟩) (hS _) ?_
        · rintro w' ⟨L, hL, hSw, hun⟩
          obtain rfl := hSo hSw (hL.wait 7 4 (by kernel_rfl) hun)
          go_simp
        simp only [List.getElem_toArray, List.getElem_cons_zero, List.getElem_cons_succ, Act.put, List.setIfInBounds_toArray, List.set_cons_zero, List.set_cons_succ]
        refine WA.take (i := 5) (v := .slice (some ⟨g, 0, none⟩) n cap) rfl (by kernel_rfl) (by kernel_rfl) (by kernel_rfl) (fun _ _ _ h => h) (hdrop 5 (by decide)) (Or.inl ⟨by rfl, ?_⟩) (hS _) ?_
        · rintro w' ⟨L, hL, hSw, hun⟩
          go_simp
        simp only [List.getElem_toArray, List.getElem_cons_zero, List.getElem_cons_succ, Act.put, List.setIfInBounds_toArray, List.set_cons_zero, List.set_cons_succ]
        refine WA.one (i := 6) (by kernel_rfl) rfl (by rfl) (fun K hK => ?_)
        go_simp
        refine (clip_any g n cap _ hgc hlc).mono ?_
        rintro e w' ⟨rfl, hw'⟩
        rw [hw']
        clear hw'
        refine hK _ _ (hS _) ?_
        clear hK
        try simp only [List.getElem_toArray, List.getElem_cons_zero, List.getElem_cons_succ, Act.put, List.setIfInBounds_toArray, List.set_cons_zero, List.set_cons_succ]
        obtain ⟨wu, hrun, hmu, htu⟩ := HCXd.out.by_.put kysR Try.underlying57 Hx.out (.slice (some ⟨g, 0, none⟩) n n)
        simp only [rv] at hrun
        have Hmu := Lib.hid hmu; have Htu := Lib.hid htu
        clear hmu htu
        refine WA.one (i := 7) (by kernel_rfl) rfl (by rfl) (fun K hK => ?_)
        go_simp
        refine hK _ _ (hSd _ _ (by rfl)) ?_
        clear hK
        try simp only [List.getElem_toArray, List.getElem_cons_zero, List.getElem_cons_succ, Act.put, List.setIfInBounds_toArray, List.set_cons_zero, List.set_cons_succ]
        refine WA.done (by kernel_rfl) ?_ _
        refine Nrm.normal ?_
        go_wp2_with fail
        have hgr := Htu.out.grown
        have hwu : ∀ i, i < Xd.heap.size → i ≠ bb → wu.heap[i]? = Xd.heap[i]? := fun i hi hb => hgr.block i hi (fun e => hb (by injection e))
        have hCu := HCXd.out.turn (wy := wu) (gb' := upd gb (x0, x1, x2) (some (.slice (some ⟨g, 0, none⟩) n n))) (fun i hi => hwu i (HCXd.out.bd i (by rcases hi with h | h | h | h <;> simp [h])).1 (HCXd.out.bb_own i hi)) Hmu.out
          (HCXd.out.bel.grown hgr HCXd.out.bel.size (fun j hj => by injection hj with hj; rw [← hj]; exact HCXd.out.ge.2.2))
        have hiu := HiXd.out.keep (w' := wu) (hwu _ HiXd.out.lt.1 Hbb0.out.1) (hwu _ HiXd.out.lt.2 (Ne.symm Hne.out.2.2))
        refine ⟨⟨_, cnt1, _, hiu, hCu, fun y hy => ⟨fun hdy => ?_, fun hdy => ?_⟩⟩, ?_⟩
        · by_cases hyx : y = (x0, x1, x2)
          · subst hyx
            rw [upd_same, Hfx.out]; rfl
          · rw [upd_ne _ _ hyx]
            exact (Hgb.out y hy).1 (hdy.resolve_right hyx)
        · rw [upd_ne _ _ (fun e => hdy (.inr e))]
          exact (Hgb.out y hy).2 (fun h => hdy (.inl h))
        · rw [hiu.left_eq, Hit.out.left_eq]
          exact Hlt1.out
end
end Go.Proofs.Ytellmhllgmimiaa
