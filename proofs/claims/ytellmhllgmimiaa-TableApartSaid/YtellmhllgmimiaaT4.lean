/- count and change: a row comes, or goes. -/
import Derived.Test.YtellmhllgmimiaaT3
namespace Go.Proofs.Ytellmhllgmimiaa
open Go.RowKit Go.Maps
set_option linter.unusedVariables false

def cget : Option Value → Int
  | some (.int _ c) => c
  | _ => 0
def bump (f : Int → Option Value) (x d : Int) : Int → Option Value := upd f x (if cget (f x) + d = 0 then none else some (.int .i64 (cget (f x) + d)))

theorem index0 (w : World) (a b c : Int) : (Instr.index 25 (.agg #[.int .u32 a, .int .u32 b, .int .u32 c]) (.int .i64 0)).run Try.prog w = .ok (.int .u32 a) w := by rfl
theorem index1 (w : World) (a b c : Int) : (Instr.index 25 (.agg #[.int .u32 a, .int .u32 b, .int .u32 c]) (.int .i64 1)).run Try.prog w = .ok (.int .u32 b) w := by rfl
theorem index2 (w : World) (a b c : Int) : (Instr.index 25 (.agg #[.int .u32 a, .int .u32 b, .int .u32 c]) (.int .i64 2)).run Try.prog w = .ok (.int .u32 c) w := by rfl

section
variable {Z : Zone} {w : World} {tb : Nat} {T : TS} {ff : R3 → Option Value} {ls : R3 → List Nat} {L : Int} {fa : Nat → Int → Option Value} {D : TabD}

theorem R3.at_ok {r : R3} (h : rok r) (p : Nat) : is32 (R3.at r p) := by
  obtain ⟨h1, h2, h3⟩ := h
  unfold R3.at
  split
  · exact h1
  · split
    · exact h2
    · exact h3

def bumpTo (fa : Nat → Int → Option Value) (r : R3) (d : Int) (k : Nat) : Nat → Int → Option Value := fun p => if p < k then bump (fa p) (R3.at r p) d else fa p

set_option maxRecDepth 100000 in
set_option maxHeartbeats 2000000 in
theorem count_any (h : IsG Z w tb T ff ls L fa D) (n : Nat) (hn : n < T.length) (d : Int) (hd : d = 1 ∨ d = -1) (hL : 0 ≤ L ∧ L ≤ 1000000)
    (hfa : ∀ p, p < 3 → ∃ c : Int, fa p (R3.at T[n].1 p) = (if c = 0 then none else some (.int .i64 c)) ∧ 0 ≤ c ∧ c ≤ 1000000) :
    Calls Try.prog 44 #[.pointer (some ⟨tb, 0, none⟩), .int .i64 n, .int .i64 d] w fun e w' =>
      e = .returned (.tuple #[]) ∧ IsG Z w' tb T ff ls (L + d) (bumpTo fa T[n].1 d 3) D ∧ Fr Z w w' := by
  have c7 := h.c7
  have f7 := h.frozen 7
  have hG := Lib.hid (h.setLive (L + d))
  have hF := Lib.hid ((Fr.refl Z w).setCell (a := ⟨tb, 7, none⟩) (v := .int .i64 (L + d)) (h.own 7))
  obtain ⟨r, hr⟩ : ∃ r, T[n].1 = r := ⟨_, rfl⟩
  have hrok : rok r := by rw [← hr]; exact (h.oks _ (List.getElem_mem hn)).1
  rw [hr] at hfa ⊢
  obtain ⟨gr, capr, hvr, hgr, r0, r1, r2⟩ := h.row n hn
  rw [hr] at r0 r1 r2
  have c0 := h.c0
  rw [hvr] at c0
  have hne : gr ≠ tb := fun e => by
    obtain ⟨_, cur, fz, h1⟩ := h.rows.lt gr (by rw [hvr]; rfl)
    subst e; rw [h.obj] at h1; injection h1 with h1; injection h1 with _ h1; revert h1; decide
  have r0' := (World.cell?_setCell_far w ⟨tb, 7, none⟩ ⟨gr, n * 3, none⟩ (.int .i64 (L + d)) (Ne.symm hne)).trans r0
  have r1' := (World.cell?_setCell_far w ⟨tb, 7, none⟩ ⟨gr, n * 3 + 1, none⟩ (.int .i64 (L + d)) (Ne.symm hne)).trans r1
  have r2' := (World.cell?_setCell_far w ⟨tb, 7, none⟩ ⟨gr, n * 3 + 2, none⟩ (.int .i64 (L + d)) (Ne.symm hne)).trans r2
  have c0' : (w.setCell ⟨tb, 7, none⟩ (.int .i64 (L + d))).cell? ⟨tb, 0, none⟩ = some (.slice (some ⟨gr, 0, none⟩) T.length capr) := (hvr ▸ hG.out.c0)
  have hl := h.long
  obtain ⟨l, hll⟩ : ∃ l, T.length = l := ⟨_, rfl⟩
  have hn' : n < l := by omega
  have hl' : l ≤ 1000000 := by omega
  rw [hll] at c0 c0'
  have Hfa := Lib.hid hfa; have Hrok := Lib.hid hrok
  clear hfa hrok hvr hgr h hr hne hl hll hn
  obtain ⟨x0, x1, x2⟩ := r
  go_enter Try.func44, Try.ntmps44
  have hw : wrap64 (L + d) = L + d := by unfold wrap64; omega
  go_wp2
  go_loopw [23] (fun i wr => ∃ k : Nat, k ≤ 3 ∧ i = .int .i64 k ∧ IsG Z wr tb T ff ls (L + d) (bumpTo fa (x0, x1, x2) d k) D ∧ Fr Z w wr) (fun i _ => 3 - (intOf i).toNat)
  case atStart => exact ⟨0, by omega, rfl, hG.out.congr (fun p _ x _ => by simp [bumpTo]), hF.out⟩
  case round =>
    obtain ⟨k, hk, rfl, hGk, hFk⟩ := hrel
    have HG := Lib.hid hGk; have HF := Lib.hid hFk
    clear hG hF hGk hFk c0 c0' c7 f7 r0 r1 r2 r0' r1' r2' hn' hl' hw
    by_cases hk3 : k < 3
    · obtain ⟨x, hx⟩ : ∃ x, R3.at (x0, x1, x2) k = x := ⟨_, rfl⟩
      have hxo : is32 x := hx ▸ R3.at_ok Hrok.out k
      obtain ⟨c, hc, hc0, hc1⟩ := Hfa.out k hk3
      rw [hx] at hc
      obtain ⟨e, he⟩ : ∃ e, c + d = e := ⟨_, rfl⟩
      have hwe : wrap64 (c + d) = e := by unfold wrap64; omega
      have hcg : cget (fa k x) = c := by rw [hc]; by_cases h0 : c = 0 <;> simp [h0, cget]
      have hat : MapAt uv is32 wr (D.ba k) (fa k) := by
        have := HG.out.at_ k hk3
        simpa [bumpTo] using this
      have hca := HG.out.ca k hk3
      have hlook : (Instr.lookup 58 (.map (some (D.ba k))) (uv x) false).run Try.prog wr = .ok (.int .i64 c) wr := by
        have := hat.look kysU Try.underlying58 (Try.zeroInt _) false hxo
        rw [this, hc]
        by_cases h0 : c = 0 <;> simp [h0]
      have step : ∀ w1, MapAt uv is32 w1 (D.ba k) (upd (fa k) x (some (.int .i64 e))) → wr.mapTurned w1 (D.ba k) →
          IsG Z w1 tb T ff ls (L + d) (fun q => if q = k then upd (fa k) x (some (.int .i64 e)) else bumpTo fa (x0, x1, x2) d k q) D ∧ Fr Z w w1 ∧ (Instr.lookup 58 (.map (some (D.ba k))) (uv x) false).run Try.prog w1 = .ok (.int .i64 e) w1 := by
        intro w1 hm1 ht1
        refine ⟨HG.out.turnA hk3 ht1 hm1, HF.out.trans (Fr.turned ht1 ⟨0, (HG.out.atW k hk3).1 0⟩ (HG.out.atW k hk3).2), ?_⟩
        have := hm1.look kysU Try.underlying58 (Try.zeroInt _) false hxo
        rw [this, upd_same]; rfl
      have Step := Lib.hid step
      have Hat := Lib.hid hat
      clear hat step
      simp only [uv] at hlook
      have hcong1 : ∀ g : Int → Option Value, (∀ y, g y = bump (fa k) x d y) → ∀ p, p < 3 → ∀ y, is32 y → bumpTo fa (x0, x1, x2) d (k + 1) p y = (fun q => if q = k then g else bumpTo fa (x0, x1, x2) d k q) p y := by
        intro g hg p hp y hy
        by_cases hpk : p = k
        · subst hpk
          simp only [bumpTo, if_pos (Nat.lt_succ_self _), hx, if_true, hg]
        · have : p < k + 1 ↔ p < k := by omega
          simp only [bumpTo, this, if_neg hpk]
      have hbump : ∀ y, bump (fa k) x d y = upd (fa k) x (if e = 0 then none else some (.int .i64 e)) y := by
        intro y; rw [bump, hcg, he]
      have Hc1 := Lib.hid hcong1; have Hb := Lib.hid hbump
      clear hcong1 hbump hc hcg
      by_cases hz : e = 0
      · subst hz
        have hk' : k = 0 ∨ k = 1 ∨ k = 2 := by omega
        have i0 := fun w => index0 w x0 x1 x2
        have i1 := fun w => index1 w x0 x1 x2
        have i2 := fun w => index2 w x0 x1 x2
        rcases hk' with rfl | rfl | rfl
        all_goals
          first | (have hx' : x0 = x := hx; clear hx; subst hx') | (have hx' : x1 = x := hx; clear hx; subst hx') | (have hx' : x2 = x := hx; clear hx; subst hx')
          go_wp2_with (first | (at_mapUpdate; refine wpList_mapUpdate_raw _ rfl _ _ _ 58 rfl 23 3 kysU Try.underlying58 _ _ rfl Hat.out _ hxo _ rfl rfl ?_; intro w1 hm1 ht1; obtain ⟨s1, s2, s3⟩ := Step.out w1 hm1 ht1; have S2 := Lib.hid s2; have ca1 := s1.ca _ hk3; simp only [uv] at s3; have Hm1 := Lib.hid hm1; have Ht1 := Lib.hid ht1; clear s1 s2 hm1 ht1) | (at_delete; refine wpList_delete_raw _ rfl _ _ 58 23 rfl 3 kysU Try.underlying58 _ _ rfl Hm1.out _ hxo rfl ?_; intro w2 hm2 ht2; have Hm2 := Lib.hid hm2; have Ht2 := Lib.hid (Ht1.out.trans ht2); have S3 := Lib.hid (HF.out.trans (Fr.turned (Ht1.out.trans ht2) ⟨0, (HG.out.atW _ hk3).1 0⟩ (HG.out.atW _ hk3).2)); clear hm2 ht2))
          go_roundw
          case rel =>
            refine ⟨_, hk3, rfl, (HG.out.turnA hk3 Ht2.out Hm2.out).congr (Hc1.out _ (fun y => ?_)), S3.out⟩
            rw [Hb.out, if_pos rfl]
            simp only [upd]
            split <;> rfl
          case measure => simp [intOf]
      · have hz' : (e == 0) = false := by simpa using hz
        have hk' : k = 0 ∨ k = 1 ∨ k = 2 := by omega
        have i0 := fun w => index0 w x0 x1 x2
        have i1 := fun w => index1 w x0 x1 x2
        have i2 := fun w => index2 w x0 x1 x2
        rcases hk' with rfl | rfl | rfl
        all_goals
          first | (have hx' : x0 = x := hx; clear hx; subst hx') | (have hx' : x1 = x := hx; clear hx; subst hx') | (have hx' : x2 = x := hx; clear hx; subst hx')
          go_wp2_with (first | (at_mapUpdate; refine wpList_mapUpdate_raw _ rfl _ _ _ 58 rfl 23 3 kysU Try.underlying58 _ _ rfl Hat.out _ hxo _ rfl rfl ?_; intro w1 hm1 ht1; obtain ⟨s1, s2, s3⟩ := Step.out w1 hm1 ht1; have S2 := Lib.hid s2; have ca1 := s1.ca _ hk3; simp only [uv] at s3; have Hm1 := Lib.hid hm1; have Ht1 := Lib.hid ht1; clear s1 s2 hm1 ht1))
          go_roundw
          case rel =>
            refine ⟨_, hk3, rfl, (HG.out.turnA hk3 Ht1.out Hm1.out).congr (Hc1.out _ (fun y => ?_)), S2.out⟩
            rw [Hb.out, if_neg hz]
            rfl
          case measure => simp [intOf]
    · have : k = 3 := by omega
      subst this
      go_wp2
      go_end0
      exact ⟨rfl, HG.out, HF.out⟩

/-- what change leaves of the counts -/
theorem bump_cnt {T : TS} {n : Nat} (hn : n < T.length) (b : Int) (hl : T.length ≤ 1000000) (d : Int) (hd : (if b ≠ 0 then (1 : Int) else 0) - (if T[n].2 ≠ 0 then 1 else 0) = d) (p : Nat) (x : Int) :
    bump (cntF T p) (R3.at T[n].1 p) d x = cntF (setB T n b) p x := by
  have hs := cnt_set T n hn b p
  have hcg : ∀ y, cget (cntF T p y) = cnt T p y := fun y => by
    unfold cntF; by_cases h : cnt T p y = 0 <;> simp [h, cget]
  rw [bump, hcg]
  by_cases hx : x = R3.at T[n].1 p
  · subst hx
    rw [upd_same]
    have := hs (R3.at T[n].1 p)
    rw [if_pos rfl, hd] at this
    unfold cntF
    by_cases h0 : cnt (setB T n b) p (R3.at T[n].1 p) = 0
    · rw [if_pos (by omega), if_pos h0]
    · rw [if_neg (by omega), if_neg h0, this]
  · rw [upd_ne _ _ hx]
    have := hs x
    rw [if_neg (Ne.symm hx)] at this
    have e : cnt (setB T n b) p x = cnt T p x := by omega
    simp only [cntF, e]
theorem cntF_form (T : TS) (p : Nat) (x : Int) (hl : T.length ≤ 1000000) : ∃ c : Int, cntF T p x = (if c = 0 then none else some (.int .i64 c)) ∧ 0 ≤ c ∧ c ≤ 1000000 := by
  refine ⟨cnt T p x, ?_, by omega, ?_⟩
  · unfold cntF; by_cases h : cnt T p x = 0 <;> simp [h]
  · have := cnt_le T p x; omega

set_option maxRecDepth 100000 in
set_option maxHeartbeats 2000000 in
theorem change_any (h : IsT Z w tb T D) (n : Nat) (hn : n < T.length) (b : Int) (hb : is8 b) :
    Calls Try.prog 23 #[.pointer (some ⟨tb, 0, none⟩), .int .i64 n, .int .u8 b] w fun e w' =>
      e = .returned (.bool (T[n].2 == 0)) ∧ IsT Z w' tb (setB T n b) D ∧ Fr Z w w' := by
  obtain ⟨gb, capb, hvb, hgb, b0, f0, hWb⟩ := h.bit n hn
  have c1 := h.c1
  rw [hvb] at c1
  have hl := h.long
  have hG := Lib.hid (h.setBit n hn hvb b hb)
  have hF := Lib.hid ((Fr.refl Z w).setCell (a := ⟨gb, n, none⟩) (v := .int .u8 b) hWb)
  obtain ⟨v, hv⟩ : ∃ v, T[n].2 = v := ⟨_, rfl⟩
  have hset : (setB T n b)[n]'(by rw [setB_length]; exact hn) = (T[n].1, b) := by rw [setB_get, if_pos rfl]
  have hlv := live_set T n hn b
  have hll := live_le T
  have hll' := live_le (setB T n b)
  rw [setB_length] at hll'
  have hrowsF : ∀ r, rok r → idxF (setB T n b) r = idxF T r := fun r _ => by rw [idxF, idxF, idx_rows (setB_rows T n b)]
  have hrowsL : ∀ x, rok x → lst (setB T n b) x = lst T x := fun x _ => lst_rows (setB_rows T n b) x
  have hcount : ∀ d : Int, (d = 1 ∨ d = -1) → (if b ≠ 0 then (1 : Int) else 0) - (if v ≠ 0 then 1 else 0) = d →
      Calls Try.prog 44 #[.pointer (some ⟨tb, 0, none⟩), .int .i64 n, .int .i64 d] (w.setCell ⟨gb, n, none⟩ (.int .u8 b)) fun e w' =>
        e = .returned (.tuple #[]) ∧ IsT Z w' tb (setB T n b) D ∧ Fr Z w w' := by
    intro d hd he
    have := count_any hG.out n (by rw [setB_length]; exact hn) d hd (by omega) (fun p hp => cntF_form T p _ hl)
    refine this.mono ?_
    rintro e w' ⟨h1, h2, h3⟩
    refine ⟨h1, ?_, hF.out.trans h3⟩
    rw [hv, he] at hlv
    rw [← hlv] at h2
    refine (h2.congrS hrowsF hrowsL).congr (fun p hp x _ => ?_)
    simp only [bumpTo, if_pos hp, hset]
    exact (bump_cnt hn b hl d (by rw [hv]; exact he) p x).symm
  have hsame : (if b ≠ 0 then (1 : Int) else 0) - (if v ≠ 0 then 1 else 0) = 0 → IsT Z (w.setCell ⟨gb, n, none⟩ (.int .u8 b)) tb (setB T n b) D := by
    intro he
    rw [hv, he, Int.add_zero] at hlv
    have h2 := hG.out
    rw [← hlv] at h2
    refine (h2.congrS hrowsF hrowsL).congr (fun p hp x _ => ?_)
    have hs := cnt_set T n hn b p x
    rw [hv, he] at hs
    have e : cnt (setB T n b) p x = cnt T p x := by split at hs <;> omega
    simp only [cntF, e]
  rw [hv] at b0 ⊢
  have Hc := Lib.hid hcount; have Hs := Lib.hid hsame
  clear hcount hsame hlv hll hll' hset hv hG h
  by_cases hv0 : v = 0
  · subst hv0
    by_cases hb0 : b = 0
    · subst hb0
      have hS := Lib.hid (Hs.out (by simp))
      go_enter Try.func23, Try.ntmps23
      go_wp2
      go_ret
      exact ⟨rfl, hS.out, hF.out⟩
    · have hC := Lib.hid (Hc.out 1 (.inl rfl) (by simp [hb0]))
      have hb1 : (b != 0) = true := by simpa using hb0
      have hb2 : (b == 0) = false := by simpa using hb0
      go_enter Try.func23, Try.ntmps23
      go_wp2_with (go_at_call 44; refine hC.out.mono ?_; rintro e w1 ⟨rfl, s1, s2⟩; have S1 := Lib.hid s1; have S2 := Lib.hid s2; clear s1 s2)
      go_ret
      exact ⟨rfl, S1.out, S2.out⟩
  · have hv1 : (v != 0) = true := by simpa using hv0
    have hv2 : (v == 0) = false := by simpa using hv0
    by_cases hb0 : b = 0
    · subst hb0
      have hC := Lib.hid (Hc.out (-1) (.inr rfl) (by simp [hv0]))
      go_enter Try.func23, Try.ntmps23
      go_wp2_with (go_at_call 44; refine hC.out.mono ?_; rintro e w1 ⟨rfl, s1, s2⟩; have S1 := Lib.hid s1; have S2 := Lib.hid s2; clear s1 s2)
      go_ret
      exact ⟨by rw [hv2]; rfl, S1.out, S2.out⟩
    · have hS := Lib.hid (Hs.out (by simp [hv0, hb0]))
      have hb1 : (b != 0) = true := by simpa using hb0
      have hb2 : (b == 0) = false := by simpa using hb0
      go_enter Try.func23, Try.ntmps23
      go_wp2
      go_ret
      exact ⟨by rw [hv2]; rfl, hS.out, hF.out⟩
end
end Go.Proofs.Ytellmhllgmimiaa
