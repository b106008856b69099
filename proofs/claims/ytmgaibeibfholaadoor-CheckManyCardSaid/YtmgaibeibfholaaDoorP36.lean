/- Few rules; the chapter's rows, plainly. -/
import Derived.Test.YtmgaibeibfholaaDoorP35
namespace Go.Proofs.YtmgaibeibfholaaDoor
set_option maxRecDepth 100000
open Go.RowKit Go.Shelf Go.Maps Plain
set_option linter.unusedVariables false
set_option linter.unusedSimpArgs false

def fewB (l : List Ru) : Bool := (l.all fun r => decide (r.body.length ≤ 40)) && decide (l.length ≤ 30)
theorem few_bad {l : List Ru} {k : Nat} (hk : k < l.length) (h : ¬ (l[k]).body.length ≤ 40) : false = fewB l := by
  unfold fewB
  have : (l.all fun r => decide (r.body.length ≤ 40)) = false := by
    rw [← Bool.not_eq_true, List.all_eq_true]
    intro hh
    exact h (of_decide_eq_true (hh _ (List.getElem_mem hk)))
  rw [this]; rfl
theorem few_end {l : List Ru} (h : ∀ j (hj : j < l.length), (l[j]).body.length ≤ 40) : decide ((l.length : Int) ≤ 30) = fewB l := by
  unfold fewB
  have : (l.all fun r => decide (r.body.length ≤ 40)) = true := List.all_eq_true.2 (fun x hx => by
    obtain ⟨j, hj, rfl⟩ := List.mem_iff_getElem.1 hx
    exact decide_eq_true (h j hj))
  rw [this, Bool.true_and]
  congr 1; rw [eq_iff_iff]; omega
set_option maxRecDepth 100000 in
set_option maxHeartbeats 1000000 in
theorem few_any (a : Option Addr) (cap : Nat) (l : List Ru) (hl : l.length ≤ maxLen) (hb : ∀ r ∈ l, r.body.length ≤ maxLen) (w : World) (hA : RusAt w a l) :
    Calls Tryd.prog 6 #[.slice a l.length cap] w fun e w' => e = .returned (.bool (fewB l)) ∧ w = w' := by
  have HA := Lib.hid hA; have Hbl := Lib.hid hb; clear hA hb
  unfold maxLen at hl
  have Hbad := Lib.hid (fun k hk => few_bad (l := l) (k := k) hk)
  have Hend := Lib.hid (few_end (l := l))
  go_enter Tryd.func6, Tryd.ntmps6
  go_wp2_with fail
  go_loop [3] (fun u => ∃ i : Nat, i ≤ l.length ∧ u = .int .i64 i ∧ ∀ j (hj : j < l.length), j < i → (l[j]).body.length ≤ 40) (fun u => l.length - (intOf u).toNat)
  case atStart => exact ⟨0, by omega, rfl, fun j _ h => by omega⟩
  case round =>
    obtain ⟨i, hi, rfl, hall⟩ := hrel
    have Hall := Lib.hid hall; clear hall
    by_cases hin : i < l.length
    · have hd : decide ((i : Int) < (l.length : Int)) = true := by simp; omega
      obtain ⟨g, o, rfl, hg, hc, hbd⟩ := HA.out i hin
      have hbl := Hbl.out _ (List.getElem_mem hin)
      have Hb := Lib.hid (Hbad.out i hin)
      obtain ⟨r, hr⟩ : ∃ r, l[i] = r := ⟨_, rfl⟩
      rw [hr] at hc hbl Hb
      have hcb := hc.body
      have Hr := Lib.hid hr
      unfold maxLen at hbl
      clear hr hc hbd hg
      by_cases h40 : r.body.length ≤ 40
      · have q1 : decide ((40 : Int) < (r.body.length : Int)) = false := decide_eq_false (by omega)
        have q2 : decide (40 < r.body.length) = false := decide_eq_false (by omega)
        have H40 := Lib.hid h40; clear h40
        go_wp2_with fail
        refine ⟨⟨i + 1, by omega, by simp, fun j hj hji => ?_⟩, by simp [intOf]; omega⟩
        rcases Nat.lt_or_ge j i with h' | h'
        · exact Hall.out j hj h'
        · obtain rfl : j = i := by omega
          rw [Hr.out]; exact H40.out
      · have q1 : decide ((40 : Int) < (r.body.length : Int)) = true := decide_eq_true (by omega)
        have q2 : decide (40 < r.body.length) = true := decide_eq_true (by omega)
        have Hn := Lib.hid (Hb.out h40); clear h40
        go_wp2_with fail
        go_ret
        exact ⟨retB Hn.out, rfl⟩
    · have hd : decide ((i : Int) < (l.length : Int)) = false := by simp; omega
      have Hn := Lib.hid (Hend.out (fun j hj => Hall.out j hj (by omega)))
      go_wp2_with fail
      go_ret
      exact ⟨retB Hn.out, rfl⟩

/-! ### the chapter's rows -/
def vS (c : UInt8) : So := ⟨⟨#[c]⟩, tm0⟩
def pT : Tm := ⟨1, ⟨#[104, 116, 116, 112, 58, 47, 47, 112]⟩, emp⟩
def pS : So := ⟨emp, pT⟩
def kb : Pa := ⟨1, ⟨vS 120, pS, vS 122⟩, so0, so0⟩
def kR (y : UInt8) (a : Option Addr) (cap : Nat) : Ru := ⟨⟨vS 120, pS, vS y⟩, [kb], a, cap⟩
theorem word1 (c : UInt8) (h : letB (c.toNat : Int) = true) : wordB ⟨#[c]⟩ 32 = true := by
  have e1 : bt ⟨#[c]⟩ 0 = (c.toNat : Int) := rfl
  have e2 : bl ⟨#[c]⟩ = [(c.toNat : Int)] := rfl
  unfold wordB
  rw [e1, e2, h]
  simp [h, show (⟨#[c]⟩ : ByteArray).size = 1 from rfl]
theorem maySo_v (c : UInt8) (h : letB (c.toNat : Int) = true) : maySo (vS c) = true := by
  unfold maySo vS
  rw [if_neg (by show ¬ 1 = 0; decide), word1 c h, decide_eq_true rfl]; rfl
theorem iri_small {s : ByteArray} (h1 : 1 ≤ s.size) (h2 : s.size ≤ 1000) (h : ∀ c ∈ bl s, okc c ∧ c < 128) : iriB s = true := by
  unfold iriB
  rw [vlB_ascii (fun c hc => ⟨by have := (h c hc).1; unfold okc at this; omega, (h c hc).2⟩), decide_eq_true h1, decide_eq_true h2, List.all_eq_true.2 (fun c hc => decide_eq_true (h c hc).1)]; rfl
theorem mayT_p : mayT pT = true := by
  unfold mayT
  rw [if_pos (show pT.kind = 1 from rfl), iri_small (s := pT.text) (by decide) (by decide) (by decide)]; rfl
theorem maySo_p : maySo pS = true := by
  unfold maySo
  rw [if_pos (show pS.var.size = 0 from rfl)]; exact mayT_p
theorem mayPa_kb : mayPa kb = true := by
  unfold mayPa
  rw [if_pos (.inl rfl)]
  have : mayPn kb.pat = true := by
    show (maySo (vS 120) && (maySo pS && maySo (vS 122))) = true
    rw [maySo_v 120 (by decide), maySo_p, maySo_v 122 (by decide)]; rfl
  rw [this, decide_eq_true (show kb.a = so0 from rfl), decide_eq_true (show kb.b = so0 from rfl)]; rfl
theorem mayRu_k (y : UInt8) (a : Option Addr) (cap : Nat) (h : letB (y.toNat : Int) = true) : mayRu (kR y a cap) = true := by
  unfold mayRu
  have : mayPn (kR y a cap).head = true := by
    show (maySo (vS 120) && (maySo pS && maySo (vS y))) = true
    rw [maySo_v 120 (by decide), maySo_p, maySo_v y h]; rfl
  rw [this]
  show (true && (decide (1 ≤ 64) && [kb].all mayPa)) = true
  simp [mayPa_kb]
theorem ruleE_ko (a : Option Addr) (cap : Nat) : ruleE (kR 122 a cap) = 0 := by
  unfold ruleE
  rw [if_pos (mayRu_k 122 a cap (by decide)), if_pos]
  show ([((-1 : Int), vS 120), (-1, pS), (-1, vS 122), (0, vS 120), (0, pS), (0, vS 122)].all fun x => decide (x.2.var.size = 0) || ([kb].any fun l => decide (l.kind = 1) && l.pat.ss.any fun s => decide (s.var = x.2.var))) = true
  decide
theorem ruleE_kr (a : Option Addr) (cap : Nat) : ruleE (kR 121 a cap) = 5 := by
  unfold ruleE
  rw [if_pos (mayRu_k 121 a cap (by decide)), if_neg]
  show ¬ ([((-1 : Int), vS 120), (-1, pS), (-1, vS 121), (0, vS 120), (0, pS), (0, vS 122)].all fun x => decide (x.2.var.size = 0) || ([kb].any fun l => decide (l.kind = 1) && l.pat.ss.any fun s => decide (s.var = x.2.var))) = true
  decide
theorem fit_v (c : UInt8) : fitS (vS c) := ⟨by show 1 < 4294967281; decide, ⟨by show 0 < 4294967281; decide, by show 0 < 4294967281; decide⟩, by show i64ok 0; exact ⟨by decide, by decide⟩⟩
theorem fit_p : fitS pS := ⟨by show 0 < 4294967281; decide, ⟨by show 8 < 4294967281; decide, by show 0 < 4294967281; decide⟩, by show i64ok 1; exact ⟨by decide, by decide⟩⟩
theorem fit_0 : fitS so0 := ⟨by show 0 < 4294967281; decide, ⟨by show 0 < 4294967281; decide, by show 0 < 4294967281; decide⟩, by show i64ok 0; exact ⟨by decide, by decide⟩⟩
theorem fit_k (y : UInt8) (a : Option Addr) (cap : Nat) : fitRu (kR y a cap) :=
  ⟨⟨fit_v 120, fit_p, fit_v y⟩, fun x hx => by
    have : x = kb := by simpa [kR] using hx
    subst this
    exact ⟨⟨fit_v 120, fit_p, fit_v 122⟩, fit_0, fit_0⟩, by show 1 ≤ maxLen; decide⟩
theorem prog_ko (a : Option Addr) (cap : Nat) : progE [kR 122 a cap] = 0 ∧ negs [kR 122 a cap] = false := by
  have hn : negs [kR 122 a cap] = false := by
    show ([kb].any (fun x => decide (x.kind = 2)) || false) = false
    decide
  refine ⟨?_, hn⟩
  rw [progE_none (l := [kR 122 a cap]) (fun j hj => by
    have : j = 0 := by simpa using hj
    subst this
    exact ruleE_ko a cap), hn]
  show (if ([kR 122 a cap].any (badR false)) = true then (5 : Int) else if dupT [kR 122 a cap] 1 = true then 8 else if 1000 < 1 then 9 else 0) = 0
  have h1 : [kR 122 a cap].any (badR false) = false := by
    show (((false && !emB pS.var) || [kb].any badP) || false) = false
    decide
  have h2 : dupT [kR 122 a cap] 1 = false := rfl
  rw [h1, h2]; rfl
end Go.Proofs.YtmgaibeibfholaaDoor
