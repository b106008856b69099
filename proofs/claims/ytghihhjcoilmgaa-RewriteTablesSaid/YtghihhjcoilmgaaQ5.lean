/- The reference's Clique: all that a row of joins leads to. -/
import Derived.Test.YtghihhjcoilmgaaQ4
import Derived.Deep.LoopGhost
namespace Go.Proofs.Ytghihhjcoilmgaa
set_option maxRecDepth 100000
open Go.RowKit Go.Maps
set_option linter.unusedVariables false
set_option linter.unusedSimpArgs false

/-- joins lie at the slice's address -/
def IsJ (w : World) (a : Option Addr) (J : Jn) : Prop := ∀ j (h : j < J.length), ∃ b off, a = some ⟨b, off, none⟩ ∧ b < w.heap.size ∧ w.cell? ⟨b, off + j * 2, none⟩ = some (.int .u32 J[j].1) ∧ w.cell? ⟨b, off + j * 2 + 1, none⟩ = some (.int .u32 J[j].2)
theorem IsJ.low {w w' : World} {a : Option Addr} {J : Jn} (h : IsJ w a J) (hs : w.heap.size ≤ w'.heap.size) (hb : ∀ i, i < w.heap.size → w'.heap[i]? = w.heap[i]?) : IsJ w' a J := by
  intro j hj
  obtain ⟨b, off, h1, h2, h3, h4⟩ := h j hj
  exact ⟨b, off, h1, Nat.lt_of_lt_of_le h2 hs, (World.cell?_of_block (w := w) (w' := w') (a := ⟨b, _, none⟩) (hb b h2)).trans h3, (World.cell?_of_block (w := w) (w' := w') (a := ⟨b, _, none⟩) (hb b h2)).trans h4⟩
theorem IsJ.below {w w' : World} {a : Option Addr} {J : Jn} (h : IsJ w a J) (hb : Below w.heap.size w w') : IsJ w' a J := h.low hb.size hb.block
theorem IsU.drew {w : World} {a : Option Addr} {L : List Int} (h : IsU w a L) : IsU w.drew a L := h.below (Below.refl _ w).drew
def nums (J : Jn) : List Int := J.map (·.1) ++ J.map (·.2)
theorem nums_len (J : Jn) : (nums J).length = 2 * J.length := by simp [nums]; omega
theorem Conn.nums {J : Jn} {a b : Int} (h : Conn J a b) : b ∈ a :: nums J := by
  by_cases hab : a = b
  · simp [hab]
  · obtain ⟨p, hp, h1 | h1⟩ := h.mem hab
    · exact List.mem_cons_of_mem _ (List.mem_append_left _ (List.mem_map.2 ⟨p, hp, h1⟩))
    · exact List.mem_cons_of_mem _ (List.mem_append_right _ (List.mem_map.2 ⟨p, hp, h1⟩))
theorem conn_len {J : Jn} {a : Int} {l : List Int} (hn : l.Nodup) (h : ∀ b ∈ l, Conn J a b) : l.length ≤ 2 * J.length + 1 := by
  have := List.Nodup.length_le_of_subset hn (l₂ := a :: nums J) (fun b hb => (h b hb).nums)
  simp [nums_len] at this
  omega
theorem closed_all {J : Jn} {a : Int} {l : List Int} (ha : a ∈ l) (hc : ∀ j (h : j < J.length), (J[j].1 ∈ l ↔ J[j].2 ∈ l)) {b : Int} (h : Conn J a b) : b ∈ l := by
  induction h with
  | refl => exact ha
  | step _ e ih =>
    obtain ⟨p, hp, _, _, hp2⟩ := e
    obtain ⟨j, hj, rfl⟩ := List.getElem_of_mem hp
    have := hc j hj
    rcases hp2 with e | e <;> rw [e] at this
    · exact this.1 ih
    · exact this.2 ih
theorem own_one (w : World) (x : Int) : OwnU w.heap.size (w.alloc (.cells #[.int .u32 x] 31)) (.slice (some ⟨w.heap.size, 0, none⟩) 1 1) [x] :=
  ⟨by simp, .inr ⟨w.heap.size, 1, _, rfl, Nat.le_refl _, World.alloc_heap_new _ _, Nat.le_refl _, by simp [maxLen], by simp, by simp⟩⟩
theorem OwnU.mono {b b' : Nat} {w : World} {v : Value} {L : List Int} (h : OwnU b w v L) (hb : b' ≤ b) : OwnU b' w v L := by
  refine ⟨h.1, ?_⟩
  rcases h.2 with h1 | ⟨g, cap, cur, h1, h2, h3⟩
  · exact .inl h1
  · exact .inr ⟨g, cap, cur, h1, by omega, h3⟩
theorem OwnU.drew {b : Nat} {w : World} {v : Value} {L : List Int} (h : OwnU b w v L) : OwnU b w.drew v L := h
theorem OwnU.below {b n : Nat} {w w' : World} {v : Value} {L : List Int} (h : OwnU b w v L) (hn : w.heap.size = n) (hb : Below n w w') : OwnU b w' v L := by
  refine ⟨h.1, ?_⟩
  rcases h.2 with h1 | ⟨g, cap, cur, h1, h2, h3, h4⟩
  · exact .inl h1
  · exact .inr ⟨g, cap, cur, h1, h2, (hb.block g (by rw [← hn]; exact (Array.getElem?_eq_some_iff.1 h3).1)).trans h3, h4⟩
section
variable {w : World}
set_option maxRecDepth 100000 in
theorem cliqueR_zero (ja : Option Addr) (n jcap : Nat) : Calls Try.prog 9 #[.slice ja n jcap, .int .u32 0] w fun e w' => e = .returned (.slice none 0 0) ∧ w = w' := by
  go_enter Try.func9, Try.ntmps9
  go_wp2_with fail
  go_ret
  exact ⟨rfl, rfl⟩
set_option maxRecDepth 100000 in
set_option maxHeartbeats 4000000 in
theorem cliqueR_u {ja : Option Addr} {J : Jn} (h : IsJ w ja J) (jcap : Nat) (hJ : J.length ≤ 100000) (hz : ∀ p ∈ J, p.1 ≠ 0 ∧ p.2 ≠ 0) (a : Int) (ha : a ≠ 0) :
    Calls Try.prog 9 #[.slice ja J.length jcap, .int .u32 a] w fun e w' => ∃ v L, e = .returned v ∧ OwnU w.heap.size w' v L ∧ IsCl J a L ∧ Below w.heap.size w w' := by
  have H := Lib.hid h
  have Hz := Lib.hid hz
  obtain ⟨n, hn⟩ : ∃ n, J.length = n := ⟨_, rfl⟩
  have Hn := Lib.hid hn
  rw [hn] at hJ ⊢
  have hq : (a == 0) = false := by simp [ha]
  have HO0 := Lib.hid (own_one w a)
  have HB0 := Lib.hid ((Below.refl _ w).alloc (Nat.le_refl _) (.cells #[.int .u32 a] 31))
  clear h hn ha hz
  go_enter Try.func9, Try.ntmps9
  go_wp2_with fail
  go_loopg [5, 6] (4 * n + 5) (fun k u5 u6 wr => ∃ (out : List Int) (g : Bool), u6 = .bool g ∧ OwnU w.heap.size wr u5 out ∧ Below w.heap.size w wr ∧ Srt out ∧ (∀ b ∈ out, Conn J a b) ∧ a ∈ out ∧
    (g = false → ∀ j (h : j < J.length), (J[j].1 ∈ out ↔ J[j].2 ∈ out)) ∧ 2 * (2 * n + 1 - out.length) + (if g then 1 else 0) ≤ k)
  case atStart => exact ⟨[a], true, rfl, HO0.out, HB0.out, by simp [Srt], fun b hb => by simp at hb; subst hb; exact .refl _, by simp, by simp, by simp; omega⟩
  case round =>
    rename World => w2
    obtain ⟨out, g, rfl, hO, hB, hS, hC, ha2, hcl, hk⟩ := hrel
    have HO := Lib.hid hO; have HB := Lib.hid hB; have HS := Lib.hid hS; have HC := Lib.hid hC; have Ha := Lib.hid ha2; have Hcl := Lib.hid hcl
    clear hO hB hS hC ha2 hcl
    cases g
    · obtain ⟨a5, cap5, rfl, _, _, _⟩ := HO.out.u
      go_wp2_with fail
      go_ret
      exact ⟨_, rfl, out, HO.out, ⟨HS.out, fun b => ⟨HC.out b, closed_all Ha.out (Hcl.out trivial)⟩⟩, HB.out⟩
    · go_wp2_with fail
      go_loopw [5, 6, 7] (fun u5 u6 u7 wx => ∃ (i : Nat) (out1 : List Int) (g : Bool), i ≤ n ∧ u7 = .int .i64 i ∧ u6 = .bool g ∧ OwnU w.heap.size wx u5 out1 ∧ Below w.heap.size w wx ∧ Srt out1 ∧ (∀ b ∈ out1, Conn J a b) ∧ a ∈ out1 ∧
        (g = false → out1 = out ∧ ∀ j (h : j < J.length), j < i → (J[j].1 ∈ out1 ↔ J[j].2 ∈ out1)) ∧ (g = true → out.length < out1.length)) (fun _ _ u _ => n - (intOf u).toNat)
      case atStart => exact ⟨0, out, false, by omega, rfl, rfl, HO.out, HB.out, HS.out, HC.out, Ha.out, fun _ => ⟨rfl, fun j _ h => by omega⟩, by simp⟩
      case round =>
        rename World => w3
        obtain ⟨i, out1, g, hi, rfl, rfl, hO, hB, hS, hC, ha2, hcf, hct⟩ := hrel
        have hlen := conn_len hS.nodup hC
        have HO1 := Lib.hid hO; have HB1 := Lib.hid hB; have HS1 := Lib.hid hS; have HC1 := Lib.hid hC; have Ha1 := Lib.hid ha2; have Hcf := Lib.hid hcf; have Hct := Lib.hid hct
        rw [Hn.out] at hlen
        clear hO hB hS hC ha2 hcf hct
        by_cases hin : i < n
        · have hd : decide ((i : Int) < (n : Int)) = true := by simp; omega
          have hiJ : i < J.length := by have := Hn.out; omega
          obtain ⟨a5, cap5, rfl, _, _, hU⟩ := HO1.out.u
          have HU := Lib.hid hU.drew
          obtain ⟨b, off, rfl, _, cx, cy⟩ := H.out.below HB1.out i hiJ
          obtain ⟨x, hx⟩ : ∃ x, J[i].1 = x := ⟨_, rfl⟩
          obtain ⟨y, hy⟩ : ∃ y, J[i].2 = y := ⟨_, rfl⟩
          rw [hx] at cx
          rw [hy] at cy
          obtain ⟨bx, hbx⟩ : ∃ bx, decide (x ∈ out1) = bx := ⟨_, rfl⟩
          obtain ⟨bY, hby⟩ : ∃ bY, decide (y ∈ out1) = bY := ⟨_, rfl⟩
          have Hx := Lib.hid hx; have Hy := Lib.hid hy; have Hbx := Lib.hid hbx; have Hby := Lib.hid hby
          clear hU hx hy hbx hby
          go_wp2_with fail
          have cx : w3.drew.cell? ⟨b, off + i * 2, none⟩ = some (.int .u32 x) := cx
          have cy : w3.drew.cell? ⟨b, off + i * 2 + 1, none⟩ = some (.int .u32 y) := cy
          obtain ⟨S10, hSe⟩ : ∃ S : Array Bool → World → Prop, S = fun _ w' => Below w3.drew.heap.size w3.drew w' := ⟨_, rfl⟩
          have hdrop : ∀ i : Nat, ∀ L w', S10 (L.setIfInBounds i true) w' → S10 L w' := by
            intro i L w' h; rw [hSe] at h ⊢; exact h
          have hS : ∀ L, S10 L w3.drew := by intro L; rw [hSe]; exact Below.refl _ _
          have hSo : ∀ {L w'}, S10 L w' → Below w3.drew.heap.size w3.drew w' := by intro L w' h; rw [hSe] at h; exact h
          have hSi : ∀ {w'}, Below w3.drew.heap.size w3.drew w' → ∀ L, S10 L w' := by intro w' h L; rw [hSe]; exact h
          clear hSe
          refine wp_region_LN S10 16 #[false, false, false, false, false, false, false, false, false, false, false, false, false, false, false, false] (by kernel_rfl) (by kernel_rfl) rfl ?_
          obtain ⟨X1, hX1⟩ : ∃ X1, X1 = w3.drew := ⟨_, rfl⟩
          rw [← hX1] at cx cy hSo hS hSi ⊢
          have HX1 := Lib.hid hX1
          clear hX1
          refine WA.tk (i := 0) (v := .slice a5 out1.length cap5) rfl (hdrop 0) (Or.inl ⟨by rfl, ?_⟩) (hS _) ?_
          · rintro w' ⟨L, hL, hSw, hun⟩
            go_simp
          simp only [nA, nB, nC, Act.put, nD, nE, nF]
          refine WA.tk (i := 1) (v := .slice (some ⟨b, off, none⟩) n jcap) rfl (hdrop 1) (Or.inl ⟨by rfl, ?_⟩) (hS _) ?_
          · rintro w' ⟨L, hL, hSw, hun⟩
            go_simp
          simp only [nA, nB, nC, Act.put, nD, nE, nF]
          refine WA.tk (i := 2) (v := .int .i64 ((i : Nat) : Int)) rfl (hdrop 2) (Or.inl ⟨by rfl, ?_⟩) (hS _) ?_
          · rintro w' ⟨L, hL, hSw, hun⟩
            go_simp
          simp only [nA, nB, nC, Act.put, nD, nE, nF]
          refine WA.tk (i := 3) (v := .pointer (some ⟨b, off + i * 2, none⟩)) rfl (hdrop 3) (Or.inl ⟨by rfl, ?_⟩) (hS _) ?_
          · rintro w' ⟨L, hL, hSw, hun⟩
            go_simp
          simp only [nA, nB, nC, Act.put, nD, nE, nF]
          refine WA.tk (i := 4) (v := .pointer (some ⟨b, off + i * 2, none⟩)) rfl (hdrop 4) (Or.inl ⟨by rfl, ?_⟩) (hS _) ?_
          · rintro w' ⟨L, hL, hSw, hun⟩
            go_simp
          simp only [nA, nB, nC, Act.put, nD, nE, nF]
          refine WA.tk (i := 5) (v := .int .u32 x) rfl (hdrop 5) (Or.inl ⟨by rfl, ?_⟩) (hS _) ?_
          · rintro w' ⟨L, hL, hSw, hun⟩
            have hbw := hSo hSw
            have cx := cell_later hbw cx
            clear hbw
            go_simp
          simp only [nA, nB, nC, Act.put, nD, nE, nF]
          refine WA.tk (i := 7) (v := .slice a5 out1.length cap5) rfl (hdrop 7) (Or.inl ⟨by rfl, ?_⟩) (hS _) ?_
          · rintro w' ⟨L, hL, hSw, hun⟩
            go_simp
          simp only [nA, nB, nC, Act.put, nD, nE, nF]
          refine WA.tk (i := 8) (v := .slice (some ⟨b, off, none⟩) n jcap) rfl (hdrop 8) (Or.inl ⟨by rfl, ?_⟩) (hS _) ?_
          · rintro w' ⟨L, hL, hSw, hun⟩
            go_simp
          simp only [nA, nB, nC, Act.put, nD, nE, nF]
          refine WA.tk (i := 9) (v := .int .i64 ((i : Nat) : Int)) rfl (hdrop 9) (Or.inl ⟨by rfl, ?_⟩) (hS _) ?_
          · rintro w' ⟨L, hL, hSw, hun⟩
            go_simp
          simp only [nA, nB, nC, Act.put, nD, nE, nF]
          refine WA.tk (i := 10) (v := .pointer (some ⟨b, off + i * 2, none⟩)) rfl (hdrop 10) (Or.inl ⟨by rfl, ?_⟩) (hS _) ?_
          · rintro w' ⟨L, hL, hSw, hun⟩
            go_simp
          simp only [nA, nB, nC, Act.put, nD, nE, nF]
          refine WA.tk (i := 11) (v := .pointer (some ⟨b, off + i * 2 + 1, none⟩)) rfl (hdrop 11) (Or.inl ⟨by rfl, ?_⟩) (hS _) ?_
          · rintro w' ⟨L, hL, hSw, hun⟩
            go_simp
          simp only [nA, nB, nC, Act.put, nD, nE, nF]
          refine WA.tk (i := 12) (v := .int .u32 y) rfl (hdrop 12) (Or.inl ⟨by rfl, ?_⟩) (hS _) ?_
          · rintro w' ⟨L, hL, hSw, hun⟩
            have hbw := hSo hSw
            have cy := cell_later hbw cy
            clear hbw
            go_simp
          simp only [nA, nB, nC, Act.put, nD, nE, nF]
          refine WA.one (i := 6) (by kernel_rfl) rfl (by rfl) (fun K hK => ?_)
          go_simp
          refine (in_u (a := a5) (L := out1) (by rw [HX1.out]; exact HU.out) cap5 (by omega) x).mono ?_
          rintro e w_ ⟨rfl, hw_⟩
          subst hw_
          rw [Hbx.out]
          refine hK _ _ (hS _) ?_
          clear hK
          try simp only [nA, nB, nC, Act.put, nD, nE, nF]
          refine WA.one (i := 13) (by kernel_rfl) rfl (by rfl) (fun K hK => ?_)
          go_simp
          refine (in_u (a := a5) (L := out1) (by rw [HX1.out]; exact HU.out) cap5 (by omega) y).mono ?_
          rintro e w_ ⟨rfl, hw_⟩
          subst hw_
          rw [Hby.out]
          refine hK _ _ (hS _) ?_
          clear hK
          try simp only [nA, nB, nC, Act.put, nD, nE, nF]
          refine WA.tk (i := 14) (v := .bool bx) rfl (hdrop 14) (Or.inl ⟨by rfl, ?_⟩) (hS _) ?_
          · rintro w' ⟨L, hL, hSw, hun⟩
            go_simp
          simp only [nA, nB, nC, Act.put, nD, nE, nF]
          refine WA.tk (i := 15) (v := .bool bY) rfl (hdrop 15) (Or.inl ⟨by rfl, ?_⟩) (hS _) ?_
          · rintro w' ⟨L, hL, hSw, hun⟩
            go_simp
          simp only [nA, nB, nC, Act.put, nD, nE, nF]
          refine WA.done (by kernel_rfl) ?_ _
          refine Nrm.normal ?_
          clear hSo hS hSi hdrop 
          clear S10
          have hxz : x ≠ 0 := by rw [← Hx.out]; exact (Hz.out _ (List.getElem_mem hiJ)).1
          have hyz : y ≠ 0 := by rw [← Hy.out]; exact (Hz.out _ (List.getElem_mem hiJ)).2
          have HBX := Lib.hid (show Below w.heap.size w X1 by rw [HX1.out]; exact HB1.out.drew)
          have HOX := Lib.hid (show OwnU w.heap.size X1 (.slice a5 out1.length cap5) out1 by rw [HX1.out]; exact HO1.out)
          have hlo : out.length ≤ out1.length := by
            cases g
            · rw [(Hcf.out rfl).1]; exact Nat.le_refl _
            · exact Nat.le_of_lt (Hct.out rfl)
          have Hlo := Lib.hid hlo
          have Hxz := Lib.hid hxz; have Hyz := Lib.hid hyz
          clear hlo hxz hyz
          cases bx <;> cases bY
          · skip
            have Hsame := Lib.hid (show x ∈ out1 ↔ y ∈ out1 by rw [← decide_eq_true_iff (p := x ∈ out1), ← decide_eq_true_iff (p := y ∈ out1), Hbx.out, Hby.out])
            go_wp2_with fail
            go_roundw
            case rel =>
              refine ⟨i + 1, out1, g, by omega, by push_cast; rfl, rfl, HOX.out, HBX.out, HS1.out, HC1.out, Ha1.out, fun hg => ⟨(Hcf.out hg).1, fun j hj h => ?_⟩, Hct.out⟩
              rcases Nat.lt_succ_iff_lt_or_eq.1 h with h | rfl
              · exact (Hcf.out hg).2 j hj h
              · rw [Hx.out, Hy.out]; exact Hsame.out
            case measure => simp [intOf]; omega
          · have hlo := Hlo.out
            have hxz := Hxz.out
            have hyz := Hyz.out
            have hxi : y ∈ out1 := of_decide_eq_true Hby.out
            have hyi : x ∉ out1 := of_decide_eq_false Hbx.out
            have hcy : Conn J a x := (HC1.out y hxi).step ⟨(x, y), List.mem_of_getElem (h := hiJ) (Prod.ext Hx.out Hy.out), hxz, hyz, .inr rfl⟩
            have hp := putGo_srt HS1.out hyi
            have hm : ∀ b ∈ putGo x false out1, Conn J a b := fun b hb => by
              rcases (putGo_mem out1).1 hb with h | rfl
              · exact HC1.out b h
              · exact hcy
            have hma : a ∈ putGo x false out1 := (putGo_mem out1).2 (.inl Ha1.out)
            have hl2 := putGo_len x out1
            have HP := Lib.hid hp; have HM := Lib.hid hm; have HMA := Lib.hid hma; have HL2 := Lib.hid hl2
            clear hxi hyi hcy hp hm hma hl2
            go_wp2_with fail
            refine (put_u (w := X1) (a := a5) (L := out1) (by rw [HX1.out]; exact HU.out) cap5 (by omega) x).mono ?_
            rintro e w4 ⟨v, rfl, hO4, hB4⟩
            have HB4 := Lib.hid ((HBX.out).trans (hB4.mono HBX.out.size)); have HO4 := Lib.hid (hO4.mono HBX.out.size)
            obtain ⟨a6, cap6, rfl, _, _, _⟩ := hO4.u
            clear hO4 hB4
            go_wp2_with fail
            go_roundw
            case rel => exact ⟨i + 1, putGo x false out1, true, by omega, by push_cast; rfl, rfl, HO4.out, HB4.out, HP.out, HM.out, HMA.out, fun h => (by cases h), fun _ => by rw [HL2.out]; omega⟩
            case measure => simp [intOf]; omega
          · have hlo := Hlo.out
            have hxz := Hxz.out
            have hyz := Hyz.out
            have hxi : x ∈ out1 := of_decide_eq_true Hbx.out
            have hyi : y ∉ out1 := of_decide_eq_false Hby.out
            have hcy : Conn J a y := (HC1.out x hxi).step ⟨(x, y), List.mem_of_getElem (h := hiJ) (Prod.ext Hx.out Hy.out), hxz, hyz, .inl rfl⟩
            have hp := putGo_srt HS1.out hyi
            have hm : ∀ b ∈ putGo y false out1, Conn J a b := fun b hb => by
              rcases (putGo_mem out1).1 hb with h | rfl
              · exact HC1.out b h
              · exact hcy
            have hma : a ∈ putGo y false out1 := (putGo_mem out1).2 (.inl Ha1.out)
            have hl2 := putGo_len y out1
            have HP := Lib.hid hp; have HM := Lib.hid hm; have HMA := Lib.hid hma; have HL2 := Lib.hid hl2
            clear hxi hyi hcy hp hm hma hl2
            go_wp2_with fail
            refine (put_u (w := X1) (a := a5) (L := out1) (by rw [HX1.out]; exact HU.out) cap5 (by omega) y).mono ?_
            rintro e w4 ⟨v, rfl, hO4, hB4⟩
            have HB4 := Lib.hid ((HBX.out).trans (hB4.mono HBX.out.size)); have HO4 := Lib.hid (hO4.mono HBX.out.size)
            obtain ⟨a6, cap6, rfl, _, _, _⟩ := hO4.u
            clear hO4 hB4
            go_wp2_with fail
            go_roundw
            case rel => exact ⟨i + 1, putGo y false out1, true, by omega, by push_cast; rfl, rfl, HO4.out, HB4.out, HP.out, HM.out, HMA.out, fun h => (by cases h), fun _ => by rw [HL2.out]; omega⟩
            case measure => simp [intOf]; omega
          · skip
            have Hsame := Lib.hid (show x ∈ out1 ↔ y ∈ out1 by rw [← decide_eq_true_iff (p := x ∈ out1), ← decide_eq_true_iff (p := y ∈ out1), Hbx.out, Hby.out])
            go_wp2_with fail
            go_roundw
            case rel =>
              refine ⟨i + 1, out1, g, by omega, by push_cast; rfl, rfl, HOX.out, HBX.out, HS1.out, HC1.out, Ha1.out, fun hg => ⟨(Hcf.out hg).1, fun j hj h => ?_⟩, Hct.out⟩
              rcases Nat.lt_succ_iff_lt_or_eq.1 h with h | rfl
              · exact (Hcf.out hg).2 j hj h
              · rw [Hx.out, Hy.out]; exact Hsame.out
            case measure => simp [intOf]; omega
        · have hd : decide ((i : Int) < (n : Int)) = false := by simp; omega
          have hni : i = n := by omega
          go_wp2_with fail
          go_roundg (2 * (2 * n + 1 - out1.length) + (if g = true then 1 else 0))
          case measure =>
            simp only [if_true] at hk
            cases g
            · rw [(Hcf.out rfl).1]; simp; omega
            · have := Hct.out rfl
              simp; omega
          case rel => exact ⟨out1, g, rfl, HO1.out, HB1.out, HS1.out, HC1.out, Ha1.out, fun hg j hj => (Hcf.out hg).2 j hj (by have := Hn.out; omega), Nat.le_refl _⟩
end
end Go.Proofs.Ytghihhjcoilmgaa
