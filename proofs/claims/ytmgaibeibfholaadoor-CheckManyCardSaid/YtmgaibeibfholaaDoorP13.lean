/- Slots, patterns, parts: what '==' says of them. -/
import Derived.Test.YtmgaibeibfholaaDoorP12
namespace Go.Proofs.YtmgaibeibfholaaDoor
set_option maxRecDepth 100000
open Go.RowKit Go.Shelf Go.Maps Plain
set_option linter.unusedVariables false

structure So where
  var : ByteArray
  tm : Tm deriving DecidableEq
structure Pn where
  a : So
  b : So
  c : So deriving DecidableEq
structure Pa where
  kind : Int
  pat : Pn
  a : So
  b : So deriving DecidableEq
def emp : ByteArray := ⟨#[]⟩
def tm0 : Tm := ⟨0, emp, emp⟩
def so0 : So := ⟨emp, tm0⟩
def pn0 : Pn := ⟨so0, so0, so0⟩
abbrev soV (s : So) : Value := .agg #[.string s.var, .int .i64 s.tm.kind, .string s.tm.text, .string s.tm.extra]
abbrev pnV (p : Pn) : Value := .agg #[.string p.a.var, .int .i64 p.a.tm.kind, .string p.a.tm.text, .string p.a.tm.extra, .string p.b.var, .int .i64 p.b.tm.kind, .string p.b.tm.text, .string p.b.tm.extra, .string p.c.var, .int .i64 p.c.tm.kind, .string p.c.tm.text, .string p.c.tm.extra]
abbrev paV (l : Pa) : Value := .agg #[.int .i64 l.kind,
  .string l.pat.a.var, .int .i64 l.pat.a.tm.kind, .string l.pat.a.tm.text, .string l.pat.a.tm.extra, .string l.pat.b.var, .int .i64 l.pat.b.tm.kind, .string l.pat.b.tm.text, .string l.pat.b.tm.extra, .string l.pat.c.var, .int .i64 l.pat.c.tm.kind, .string l.pat.c.tm.text, .string l.pat.c.tm.extra,
  .string l.a.var, .int .i64 l.a.tm.kind, .string l.a.tm.text, .string l.a.tm.extra, .string l.b.var, .int .i64 l.b.tm.kind, .string l.b.tm.text, .string l.b.tm.extra]

theorem toList_beq (a b : ByteArray) : (a.toList == b.toList) = decide (a = b) := by
  rw [Lib.toList_data, Lib.toList_data, Bool.eq_iff_iff, beq_iff_eq, decide_eq_true_iff]
  constructor
  · intro h
    cases a; cases b
    congr 1
    exact Array.toList_inj.1 h
  · rintro rfl; rfl
theorem toList_iff (a b : ByteArray) : a.toList = b.toList ↔ a = b := by
  have := toList_beq a b
  rw [Bool.eq_iff_iff, beq_iff_eq, decide_eq_true_iff] at this
  exact this
theorem eqTm (d : Nat) (a b : Tm) (w : World) : (Op.equalIn (d + 1 + 1) 35 (tmV a) (tmV b)).run Tryd.prog w = .ok (decide (a = b)) w := by
  have hS : Tryd.prog.underlying 35 = some (.struct (Tryd.prog.fieldsOf 35)) := by kernel_rfl
  have hp : Tryd.prog.stoodInHeld 35 = false := by kernel_rfl
  have u1 := Tryd.underlying9
  have u2 := Tryd.underlying33
  rw [run_equalIn_agg w (d + 1) 35 _ _ hS hp]
  simp only [Program.fieldsOf, Tryd.underlying35]
  go_simp
  simp only [toList_iff]
  cases a; cases b
  simp only [Tm.mk.injEq]
  rename_i k s x k' s' x'
  by_cases h1 : k = k' <;> by_cases h2 : s = s' <;> by_cases h3 : x = x' <;> simp [h1, h2, h3]
theorem eqSo (d : Nat) (a b : So) (w : World) : (Op.equalIn (d + 1 + 1 + 1) 37 (soV a) (soV b)).run Tryd.prog w = .ok (decide (a = b)) w := by
  have hS : Tryd.prog.underlying 37 = some (.struct (Tryd.prog.fieldsOf 37)) := by kernel_rfl
  have hp : Tryd.prog.stoodInHeld 37 = false := by kernel_rfl
  have u1 := Tryd.underlying9
  have a1 := Tryd.isAgg35
  have z1 := Tryd.sizeOf35
  have hT := eqTm d a.tm b.tm
  rw [run_equalIn_agg w (d + 1 + 1) 37 _ _ hS hp]
  simp only [Program.fieldsOf, Tryd.underlying37]
  go_simp
  simp only [toList_iff]
  cases a; cases b
  simp only [So.mk.injEq]
  rename_i s x s' x'
  by_cases h1 : s = s' <;> by_cases h2 : x = x' <;> simp [h1, h2]
theorem so_ext {a b : So} (h1 : a.var.toList = b.var.toList) (h2 : a.tm.kind = b.tm.kind) (h3 : a.tm.text.toList = b.tm.text.toList) (h4 : a.tm.extra.toList = b.tm.extra.toList) : a = b := by
  rw [toList_iff] at h1 h3 h4
  obtain ⟨v, k, t, e⟩ := a
  obtain ⟨v', k', t', e'⟩ := b
  simp only at h1 h2 h3 h4
  rw [h1, h2, h3, h4]
theorem eqPn (d : Nat) (a b : Pn) (w : World) : (Op.equalIn (d + 1 + 1 + 1 + 1) 40 (pnV a) (pnV b)).run Tryd.prog w = .ok (decide (a = b)) w := by
  have a1 := Tryd.isAgg37
  have z1 := Tryd.sizeOf37
  have h1 := eqSo d a.a b.a
  have h2 := eqSo d a.b b.b
  have h3 := eqSo d a.c b.c
  rw [show d + 1 + 1 + 1 + 1 = (d + 1 + 1 + 1) + 1 from rfl, Op.equalIn]
  simp only [Sem.run_bind, run_underlying Tryd.underlying40, Result.andThen_ok]
  simp only [Std.Legacy.Range.forIn_eq_forIn_range', Std.Legacy.Range.size, Nat.sub_zero, Nat.add_sub_cancel, Nat.div_one, List.range'_succ, List.range'_zero, List.forIn_cons, List.forIn_nil]
  go_simp
  cases a; cases b
  simp only [Pn.mk.injEq]
  rename_i s x t s' x' t'
  by_cases h1 : s = s' <;> by_cases h2 : x = x' <;> by_cases h3 : t = t' <;> simp [h1, h2, h3]
  all_goals (intro e1 e2 e3 e4; first | exact (h2 (so_ext e1 e2 e3 e4)).elim | exact (h3 (so_ext e1 e2 e3 e4)).elim)
theorem eqPa (d : Nat) (a b : Pa) (w : World) : (Op.equalIn (d + 1 + 1 + 1 + 1 + 1) 43 (paV a) (paV b)).run Tryd.prog w = .ok (decide (a = b)) w := by
  have hS : Tryd.prog.underlying 43 = some (.struct (Tryd.prog.fieldsOf 43)) := by kernel_rfl
  have hp : Tryd.prog.stoodInHeld 43 = false := by kernel_rfl
  have u1 := Tryd.underlying41
  have a1 := Tryd.isAgg37
  have z1 := Tryd.sizeOf37
  have a2 := Tryd.isAgg40
  have z2 := Tryd.sizeOf40
  have h1 := eqPn d a.pat b.pat
  have h2 := eqSo (d + 1) a.a b.a
  have h3 := eqSo (d + 1) a.b b.b
  rw [run_equalIn_agg w (d + 1 + 1 + 1 + 1) 43 _ _ hS hp]
  simp only [Program.fieldsOf, Tryd.underlying43]
  go_simp
  cases a; cases b
  simp only [Pa.mk.injEq]
  rename_i s x t u s' x' t' u'
  by_cases h1 : s = s' <;> by_cases h2 : x = x' <;> by_cases h3 : t = t' <;> by_cases h4 : u = u' <;> simp [h1, h2, h3, h4]
  all_goals (intro e1 e2 e3 e4; first | exact (h3 (so_ext e1 e2 e3 e4)).elim | exact (h4 (so_ext e1 e2 e3 e4)).elim)
theorem eqTmB (a b : Tm) (d : Bool) (hd : decide (a = b) = d) (w : World) : (binOp .eql 35 (tmV a) (tmV b)).run Tryd.prog w = .ok (.bool d) w := by
  have e : (Op.equalIn 10000 35 (tmV a) (tmV b)).run Tryd.prog w = .ok (decide (a = b)) w := eqTm 9998 a b w
  rw [run_eql_struct, e, hd]; rfl
theorem eqSoB (a b : So) (d : Bool) (hd : decide (a = b) = d) (w : World) : (binOp .eql 37 (soV a) (soV b)).run Tryd.prog w = .ok (.bool d) w := by
  have e : (Op.equalIn 10000 37 (soV a) (soV b)).run Tryd.prog w = .ok (decide (a = b)) w := eqSo 9997 a b w
  rw [run_eql_struct, e, hd]; rfl
theorem eqPnB (a b : Pn) (d : Bool) (hd : decide (a = b) = d) (w : World) : (binOp .eql 40 (pnV a) (pnV b)).run Tryd.prog w = .ok (.bool d) w := by
  have e : (Op.equalIn 10000 40 (pnV a) (pnV b)).run Tryd.prog w = .ok (decide (a = b)) w := eqPn 9996 a b w
  rw [run_eql_struct, e, hd]; rfl
theorem eqPaB (a b : Pa) (d : Bool) (hd : decide (a = b) = d) (w : World) : (binOp .eql 43 (paV a) (paV b)).run Tryd.prog w = .ok (.bool d) w := by
  have e : (Op.equalIn 10000 43 (paV a) (paV b)).run Tryd.prog w = .ok (decide (a = b)) w := eqPa 9995 a b w
  rw [run_eql_struct, e, hd]; rfl
theorem neqPaB (a b : Pa) (d : Bool) (hd : decide (a = b) = d) (w : World) : (binOp .neq 43 (paV a) (paV b)).run Tryd.prog w = .ok (.bool !d) w := by
  have e : (Op.equalIn 10000 43 (paV a) (paV b)).run Tryd.prog w = .ok (decide (a = b)) w := eqPa 9995 a b w
  rw [run_neq_struct, e, hd]; rfl
theorem neqPnB (a b : Pn) (d : Bool) (hd : decide (a = b) = d) (w : World) : (binOp .neq 40 (pnV a) (pnV b)).run Tryd.prog w = .ok (.bool !d) w := by
  have e : (Op.equalIn 10000 40 (pnV a) (pnV b)).run Tryd.prog w = .ok (decide (a = b)) w := eqPn 9996 a b w
  rw [run_neq_struct, e, hd]; rfl
end Go.Proofs.YtmgaibeibfholaaDoor
