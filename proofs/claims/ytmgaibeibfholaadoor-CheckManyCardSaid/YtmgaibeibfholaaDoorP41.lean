/- Many rules: plainly. -/
import Derived.Test.YtmgaibeibfholaaDoorP40
namespace Go.Proofs.YtmgaibeibfholaaDoor
set_option maxRecDepth 100000
open Go.RowKit Go.Shelf Go.Maps Plain
set_option linter.unusedVariables false
set_option linter.unusedSimpArgs false

/-- the text of a rule's third slot -/
def qT (x y z : Int) : ByteArray := (⟨#[104, 116, 116, 112, 58, 47, 47, 113, 47]⟩ : ByteArray) ++ strOfNums [x, y, z]
def az (x : Int) : Prop := 97 ≤ x ∧ x ≤ 122
theorem bl_qT {x y z : Int} (hx : az x) (hy : az y) (hz : az z) : bl (qT x y z) = [104, 116, 116, 112, 58, 47, 47, 113, 47, x, y, z] := by
  unfold qT
  rw [bl_append, bl_str]
  · rfl
  · intro c hc
    unfold az at hx hy hz
    simp only [List.mem_cons, List.mem_nil_iff, or_false] at hc
    unfold isB
    rcases hc with rfl | rfl | rfl <;> omega
theorem iri_qT {x y z : Int} (hx : az x) (hy : az y) (hz : az z) : iriB (qT x y z) = true := by
  have hl : (qT x y z).size = 12 := by rw [← bl_length, bl_qT hx hy hz]; rfl
  refine iri_small (by omega) (by omega) (fun c hc => ?_)
  rw [bl_qT hx hy hz] at hc
  unfold az at hx hy hz
  simp only [List.mem_cons, List.mem_nil_iff, or_false] at hc
  unfold okc
  rcases hc with rfl | rfl | rfl | rfl | rfl | rfl | rfl | rfl | rfl | rfl | rfl | rfl <;> omega
def qJ (j : Nat) : ByteArray := qT (97 + ((j / 676 : Nat) : Int)) (97 + ((j / 26 % 26 : Nat) : Int)) (97 + ((j % 26 : Nat) : Int))
theorem az_of {j : Nat} (h : j < 1010) : az (97 + ((j / 676 : Nat) : Int)) ∧ az (97 + ((j / 26 % 26 : Nat) : Int)) ∧ az (97 + ((j % 26 : Nat) : Int)) := by
  unfold az; omega
theorem qJ_inj {j k : Nat} (hj : j < 1010) (hk : k < 1010) (h : qJ j = qJ k) : j = k := by
  have hb : bl (qJ j) = bl (qJ k) := by rw [h]
  unfold qJ at hb
  rw [bl_qT (az_of hj).1 (az_of hj).2.1 (az_of hj).2.2, bl_qT (az_of hk).1 (az_of hk).2.1 (az_of hk).2.2] at hb
  simp only [List.cons.injEq, and_true, true_and] at hb
  omega
def kbM : Pa := ⟨1, ⟨vS 120, pS, vS 120⟩, so0, so0⟩
def kM (j b : Nat) : Ru := ⟨⟨vS 120, pS, ⟨emp, ⟨1, qJ j, emp⟩⟩⟩, [kbM], some ⟨b, 0, none⟩, 1⟩
theorem mayPa_kbM : mayPa kbM = true := by
  unfold mayPa
  rw [if_pos (.inl rfl)]
  have : mayPn kbM.pat = true := by
    show (maySo (vS 120) && (maySo pS && maySo (vS 120))) = true
    rw [maySo_v 120 (by decide), maySo_p]; rfl
  rw [this, decide_eq_true (show kbM.a = so0 from rfl), decide_eq_true (show kbM.b = so0 from rfl)]; rfl
theorem maySo_q {j : Nat} (h : j < 1010) : maySo ⟨emp, ⟨1, qJ j, emp⟩⟩ = true := by
  unfold maySo
  rw [if_pos (show emp.size = 0 from rfl)]
  unfold mayT
  rw [if_pos rfl]
  show (iriB (qJ j) && emB emp) = true
  unfold qJ
  rw [iri_qT (az_of h).1 (az_of h).2.1 (az_of h).2.2]; rfl
theorem mayRu_kM {j : Nat} (h : j < 1010) (b : Nat) : mayRu (kM j b) = true := by
  unfold mayRu
  have : mayPn (kM j b).head = true := by
    show (maySo (vS 120) && (maySo pS && maySo ⟨emp, ⟨1, qJ j, emp⟩⟩)) = true
    rw [maySo_v 120 (by decide), maySo_p, maySo_q h]; rfl
  rw [this]
  show (true && (decide (1 ≤ 64) && [kbM].all mayPa)) = true
  simp [mayPa_kbM]
theorem any_x : ([kbM].any fun l => decide (l.kind = 1) && l.pat.ss.any fun s => decide (s.var = (vS 120).var)) = true := by decide
theorem ruleE_kM {j : Nat} (h : j < 1010) (b : Nat) : ruleE (kM j b) = 0 := by
  unfold ruleE
  rw [if_pos (mayRu_kM h b), if_pos]
  show ([((-1 : Int), vS 120), (-1, pS), (-1, (⟨emp, ⟨1, qJ j, emp⟩⟩ : So)), (0, vS 120), (0, pS), (0, vS 120)].all fun x => decide (x.2.var.size = 0) || ([kbM].any fun l => decide (l.kind = 1) && l.pat.ss.any fun s => decide (s.var = x.2.var))) = true
  simp only [List.all_cons, List.all_nil, any_x, Bool.or_true, Bool.and_true, Bool.true_and, Bool.and_eq_true, Bool.or_eq_true, decide_eq_true_eq]
  exact ⟨.inl rfl, .inl rfl, .inl rfl⟩
def MAt (L : List Ru) : Prop := ∀ j (h : j < L.length), ∃ b, L[j] = kM j b
theorem negs_M {L : List Ru} (h : MAt L) : negs L = false := by
  unfold negs
  rw [← Bool.not_eq_true, List.any_eq_true]
  rintro ⟨x, hx, hs⟩
  obtain ⟨j, hj, rfl⟩ := List.mem_iff_getElem.1 hx
  obtain ⟨b, hb⟩ := h j hj
  rw [hb] at hs
  cases hs
theorem prog_M {L : List Ru} (h : MAt L) (hl : L.length ≤ 1010) : progE L = if 1000 < L.length then 9 else 0 := by
  rw [progE_good (fun j hj => ?_) (fun j hj => ?_)]
  · rw [if_neg]
    intro hd
    obtain ⟨k, j, hkj, hj, hs⟩ := dup_at hd
    obtain ⟨b, hb⟩ := h j hj
    obtain ⟨c, hc⟩ := h k (by omega)
    rw [hb, hc] at hs
    unfold sameRu at hs
    rw [Bool.and_eq_true] at hs
    have e := of_decide_eq_true hs.1
    have e2 : qJ k = qJ j := congrArg (fun p : Pn => p.c.tm.text) e
    have := qJ_inj (by omega) (by omega) e2
    omega
  · obtain ⟨b, hb⟩ := h j hj
    rw [hb]; exact ruleE_kM (by omega) b
  · obtain ⟨b, hb⟩ := h j hj
    rw [hb, negs_M h]; rfl
theorem fit_kM {j : Nat} (h : j < 1010) (b : Nat) : fitRu (kM j b) := fit_of_mayRu (mayRu_kM h b)
theorem infoRuP : (Tryd.prog.info? 46).map (fun i => (i.zero, i.size, i.bytes)) = some (some (.agg zRu), 13, 192) := by kernel_rfl
theorem ruS_length (l : List Ru) : (l.flatMap ruC).length = l.length * 13 := by
  induction l with
  | nil => rfl
  | cons a l ih => rw [List.flatMap_cons, List.length_append, ih]; simp [ruC]; omega
theorem ruS_get {l : List Ru} {k i : Nat} (h : k < l.length) (hi : i < 13) : (l.flatMap ruC)[k * 13 + i]? = (ruC l[k])[i]? := by
  induction l generalizing k with
  | nil => simp at h
  | cons a l ih =>
    rw [List.flatMap_cons]
    have e13 : (ruC a).length = 13 := rfl
    cases k with
    | zero =>
      rw [Nat.zero_mul, Nat.zero_add, List.getElem?_append_left (by omega)]
      rfl
    | succ k =>
      rw [List.getElem?_append_right (by omega)]
      have e : (k + 1) * 13 + i - (ruC a).length = k * 13 + i := by omega
      rw [e, ih (by simpa using h)]
      rfl
theorem row_rus {w : World} {base : Nat} {a : Option Addr} {cap : Nat} {l : List Ru} (h : w.ownsRow base 46 13 (.slice a l.length cap) l.length (l.flatMap ruC)) (hb : ∀ j (hj : j < l.length), BodAt w l[j].adr l[j].body) : RusAt w a l := fun j hj => by
  rcases h.2 with ⟨he, h0⟩ | ⟨g, c, cur, he, _, hg, _⟩
  · omega
  · injection he with e1 _ _
    subst e1
    refine ⟨g, 0, rfl, lt_of_heap hg, fun i v hv => ?_, hb j hj⟩
    have hi : i < 13 := by
      have := (List.getElem?_eq_some_iff.1 hv).1
      exact this
    have := h.cells (g := g) rfl (j * 13 + i) v (by rw [ruS_get hj hi]; exact hv)
    rw [add_off] at this
    rw [Nat.add_assoc]; exact this
theorem row_cap {w : World} {base n cap size : Nat} {e : TypeId} {a : Option Addr} {xs : List Value} (h : w.ownsRow base e size (.slice a n cap) n xs) : n ≤ cap ∧ cap ≤ maxLen := by
  rcases h.2 with ⟨he, h0⟩ | ⟨g, c, cur, he, _, _, h1, h2, _⟩
  · injection he with _ _ e; subst e; exact ⟨by omega, by unfold maxLen; omega⟩
  · injection he with _ _ e; subst e; exact ⟨h1, h2⟩
end Go.Proofs.YtmgaibeibfholaaDoor
