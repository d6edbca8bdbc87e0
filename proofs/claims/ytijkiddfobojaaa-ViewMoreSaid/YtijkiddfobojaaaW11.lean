import Derived.Test.YtijkiddfobojaaaAbS
import Derived.Test.YtijkiddfobojaaaFacts
namespace Go.Proofs.Ytijkiddfobojaaa
set_option linter.all false
set_option linter.unusedSimpArgs false
set_option linter.unusedVariables false
set_option maxRecDepth 20000
set_option maxHeartbeats 2000000
open Go Go.Ab Go.Proofs
abbrev shPair : Sh := .row [.int .u64, .int .i64]
abbrev shRef : Sh := .row [.int .u64, .int .u64]
abbrev shWait : Sh := .row [shRef, .int .u64, .int .u64, .bool]
abbrev shMap : Sh := .row [.int .i64, .int .i64, .int .u64, .int .u64, .int .i64, .bool]
abbrev shLabel : Sh := .sl true shPair
abbrev shU : Sh := .sl false (.int .u64)
abbrev shThread : Sh := .row [.row [.int .u64, .int .u64, .int .u64, .int .u64, .int .u64, .int .u64, .int .u64, .int .u64, .int .u64, .int .u64, .int .u64, .int .u64, .int .u64, .int .u64, .int .u64, .int .u64], .int .u64, shLabel, shRef, .int .u64, .int .u64, .int .i64, shWait, shU, shRef, .row [shLabel, shLabel, shLabel, shLabel]]
abbrev shGate : Sh := .row [shLabel, shLabel, shRef, .int .u64, .int .u64]
abbrev shObject : Sh := .row [.int .u64, .int .i64, shLabel, .int .i64, .bool, shU, shU, .sl true shMap, shThread, shGate, shU, shU]
abbrev shWorld : Sh := .row [.int .i64, .int .u64, .int .u64, .sl true shObject]
theorem shape25 : Sh.ofT Try.prog 12 25 = some shWorld := by kernel_rfl
theorem shape27 : Sh.ofT Try.prog 12 27 = some shLabel := by kernel_rfl
/-- Lists of a kind. -/
theorem conf_list {α : Type} {f : α → D} {xs : List D} (h : ∀ x ∈ xs, ∃ y, x = f y) : ∃ l : List α, xs = l.map f := by
  induction xs with
  | nil => exact ⟨[], rfl⟩
  | cons x xs ih =>
    obtain ⟨y, rfl⟩ := h x List.mem_cons_self
    obtain ⟨l, rfl⟩ := ih fun z hz => h z (List.mem_cons_of_mem _ hz)
    exact ⟨y :: l, rfl⟩
theorem agg_of {x : D} {cs : List D} (h1 : x.cells = cs) (h2 : ∃ ds, x = .agg ds) : x = .agg cs := by
  obtain ⟨ds, rfl⟩ := h2; rw [← h1]; rfl
theorem conf_label {ds : List D} (h : Conf shLabel ds) : ∃ l : List XPair, ds = [encL XPair.enc l] := by
  simp only [Conf] at h
  obtain ⟨xs, rfl, hx⟩ := h
  obtain ⟨l, rfl⟩ := conf_list (f := XPair.enc) (xs := xs) fun x hm => by
    obtain ⟨h1, h2, _⟩ := hx x hm
    simp only [ConfL] at h1
    obtain ⟨a, b, e1, ⟨n, rfl⟩, c, d, rfl, ⟨k, rfl⟩, rfl⟩ := h1
    exact ⟨⟨n, k⟩, agg_of e1 (h2 trivial)⟩
  exact ⟨l, rfl⟩
theorem conf_u {ds : List D} (h : Conf shU ds) : ∃ l : List Int, ds = [encL D.u l] := by
  simp only [Conf] at h
  obtain ⟨xs, rfl, hx⟩ := h
  obtain ⟨l, rfl⟩ := conf_list (f := D.u) (xs := xs) fun x hm => by
    obtain ⟨⟨n, h1⟩, _, h2⟩ := hx x hm
    have := h2 trivial
    rw [h1] at this
    exact ⟨n, by simpa [D.u] using this.symm⟩
  exact ⟨l, rfl⟩
theorem conf_maps {ds : List D} (h : Conf (.sl true shMap) ds) : ∃ l : List XPagesReach, ds = [encL XPagesReach.enc l] := by
  simp only [Conf] at h
  obtain ⟨xs, rfl, hx⟩ := h
  obtain ⟨l, rfl⟩ := conf_list (f := XPagesReach.enc) (xs := xs) fun x hm => by
    obtain ⟨h1, h2, _⟩ := hx x hm
    simp only [ConfL] at h1
    obtain ⟨_, _, e1, ⟨n1, rfl⟩, _, _, rfl, ⟨n2, rfl⟩, _, _, rfl, ⟨n3, rfl⟩, _, _, rfl, ⟨n4, rfl⟩, _, _, rfl, ⟨n5, rfl⟩, _, _, rfl, ⟨n6, rfl⟩, rfl⟩ := h1
    exact ⟨⟨n1, n2, n3, n4, n5, n6⟩, agg_of e1 (h2 trivial)⟩
  exact ⟨l, rfl⟩
theorem conf_row {fs : List Sh} {ds : List D} (h : Conf (.row fs) ds) : ConfL fs ds := by rw [Conf] at h; exact h
theorem conf_int {k : IntKind} {ds : List D} (h : Conf (.int k) ds) : ∃ n, ds = [.v (.int k n)] := by rw [Conf] at h; exact h
theorem conf_bool {ds : List D} (h : Conf .bool ds) : ∃ n, ds = [.v (.bool n)] := by rw [Conf] at h; exact h
theorem confL_cons {f : Sh} {fs : List Sh} {ds : List D} (h : ConfL (f :: fs) ds) : ∃ a b, ds = a ++ b ∧ Conf f a ∧ ConfL fs b := by rw [ConfL] at h; exact h
theorem confL_nil {ds : List D} (h : ConfL [] ds) : ds = [] := by rw [ConfL] at h; exact h
theorem conf_ref {ds : List D} (h : Conf shRef ds) : ∃ a b : Int, ds = [D.u a, D.u b] := by
  obtain ⟨_, _, rfl, h1, h⟩ := confL_cons (conf_row h)
  obtain ⟨_, _, rfl, h2, h⟩ := confL_cons h
  obtain rfl := confL_nil h
  obtain ⟨a, rfl⟩ := conf_int h1
  obtain ⟨b, rfl⟩ := conf_int h2
  exact ⟨a, b, rfl⟩
theorem conf_wait {ds : List D} (h : Conf shWait ds) : ∃ t : XWait, ds = t.enc.cells := by
  have h := conf_row h
  obtain ⟨_, _, rfl, hr, h⟩ := confL_cons h
  obtain ⟨_, _, rfl, hx, h⟩ := confL_cons h
  obtain ⟨_, _, rfl, hy, h⟩ := confL_cons h
  obtain ⟨_, _, rfl, hb, h⟩ := confL_cons h
  obtain rfl := confL_nil h
  obtain ⟨r1, r2, rfl⟩ := conf_ref hr
  obtain ⟨x, rfl⟩ := conf_int hx
  obtain ⟨y, rfl⟩ := conf_int hy
  obtain ⟨b, rfl⟩ := conf_bool hb
  exact ⟨⟨⟨r1, r2⟩, x, y, b⟩, rfl⟩
theorem conf_regs {ds : List D} (h : Conf (.row [.int .u64, .int .u64, .int .u64, .int .u64, .int .u64, .int .u64, .int .u64, .int .u64, .int .u64, .int .u64, .int .u64, .int .u64, .int .u64, .int .u64, .int .u64, .int .u64]) ds) : ∃ f : Fin 16 → Int, ds = [D.u (f 0), D.u (f 1), D.u (f 2), D.u (f 3), D.u (f 4), D.u (f 5), D.u (f 6), D.u (f 7), D.u (f 8), D.u (f 9), D.u (f 10), D.u (f 11), D.u (f 12), D.u (f 13), D.u (f 14), D.u (f 15)] := by
  have h := conf_row h
  obtain ⟨_, _, rfl, hr0, h⟩ := confL_cons h
  obtain ⟨_, _, rfl, hr1, h⟩ := confL_cons h
  obtain ⟨_, _, rfl, hr2, h⟩ := confL_cons h
  obtain ⟨_, _, rfl, hr3, h⟩ := confL_cons h
  obtain ⟨_, _, rfl, hr4, h⟩ := confL_cons h
  obtain ⟨_, _, rfl, hr5, h⟩ := confL_cons h
  obtain ⟨_, _, rfl, hr6, h⟩ := confL_cons h
  obtain ⟨_, _, rfl, hr7, h⟩ := confL_cons h
  obtain ⟨_, _, rfl, hr8, h⟩ := confL_cons h
  obtain ⟨_, _, rfl, hr9, h⟩ := confL_cons h
  obtain ⟨_, _, rfl, hr10, h⟩ := confL_cons h
  obtain ⟨_, _, rfl, hr11, h⟩ := confL_cons h
  obtain ⟨_, _, rfl, hr12, h⟩ := confL_cons h
  obtain ⟨_, _, rfl, hr13, h⟩ := confL_cons h
  obtain ⟨_, _, rfl, hr14, h⟩ := confL_cons h
  obtain ⟨_, _, rfl, hr15, h⟩ := confL_cons h
  obtain rfl := confL_nil h
  obtain ⟨r0, rfl⟩ := conf_int hr0
  obtain ⟨r1, rfl⟩ := conf_int hr1
  obtain ⟨r2, rfl⟩ := conf_int hr2
  obtain ⟨r3, rfl⟩ := conf_int hr3
  obtain ⟨r4, rfl⟩ := conf_int hr4
  obtain ⟨r5, rfl⟩ := conf_int hr5
  obtain ⟨r6, rfl⟩ := conf_int hr6
  obtain ⟨r7, rfl⟩ := conf_int hr7
  obtain ⟨r8, rfl⟩ := conf_int hr8
  obtain ⟨r9, rfl⟩ := conf_int hr9
  obtain ⟨r10, rfl⟩ := conf_int hr10
  obtain ⟨r11, rfl⟩ := conf_int hr11
  obtain ⟨r12, rfl⟩ := conf_int hr12
  obtain ⟨r13, rfl⟩ := conf_int hr13
  obtain ⟨r14, rfl⟩ := conf_int hr14
  obtain ⟨r15, rfl⟩ := conf_int hr15
  exact ⟨fun i => [r0, r1, r2, r3, r4, r5, r6, r7, r8, r9, r10, r11, r12, r13, r14, r15].getD i 0, rfl⟩
theorem conf_four {ds : List D} (h : Conf (.row [shLabel, shLabel, shLabel, shLabel]) ds) : ∃ f : Fin 4 → List XPair, ds = [encL XPair.enc (f 0), encL XPair.enc (f 1), encL XPair.enc (f 2), encL XPair.enc (f 3)] := by
  have h := conf_row h
  obtain ⟨_, _, rfl, ha, h⟩ := confL_cons h
  obtain ⟨_, _, rfl, hb, h⟩ := confL_cons h
  obtain ⟨_, _, rfl, hc, h⟩ := confL_cons h
  obtain ⟨_, _, rfl, hd, h⟩ := confL_cons h
  obtain rfl := confL_nil h
  obtain ⟨a, rfl⟩ := conf_label ha
  obtain ⟨b, rfl⟩ := conf_label hb
  obtain ⟨c, rfl⟩ := conf_label hc
  obtain ⟨d, rfl⟩ := conf_label hd
  exact ⟨fun i => [a, b, c, d].getD i [], rfl⟩
theorem conf_gate {ds : List D} (h : Conf shGate ds) : ∃ t : XGate, ds = t.enc.cells := by
  have h := conf_row h
  obtain ⟨_, _, rfl, hg, h⟩ := confL_cons h
  obtain ⟨_, _, rfl, hc, h⟩ := confL_cons h
  obtain ⟨_, _, rfl, hs, h⟩ := confL_cons h
  obtain ⟨_, _, rfl, hpc, h⟩ := confL_cons h
  obtain ⟨_, _, rfl, har, h⟩ := confL_cons h
  obtain rfl := confL_nil h
  obtain ⟨g, rfl⟩ := conf_label hg
  obtain ⟨c, rfl⟩ := conf_label hc
  obtain ⟨s1, s2, rfl⟩ := conf_ref hs
  obtain ⟨pc, rfl⟩ := conf_int hpc
  obtain ⟨ar, rfl⟩ := conf_int har
  exact ⟨⟨g, c, ⟨s1, s2⟩, pc, ar⟩, rfl⟩
theorem conf_thread {ds : List D} (h : Conf shThread ds) : ∃ t : XThread, ds = t.enc.cells := by
  have h := conf_row h
  obtain ⟨_, _, rfl, hrg, h⟩ := confL_cons h
  obtain ⟨_, _, rfl, hpc, h⟩ := confL_cons h
  obtain ⟨_, _, rfl, hcl, h⟩ := confL_cons h
  obtain ⟨_, _, rfl, hs, h⟩ := confL_cons h
  obtain ⟨_, _, rfl, hhd, h⟩ := confL_cons h
  obtain ⟨_, _, rfl, hve, h⟩ := confL_cons h
  obtain ⟨_, _, rfl, hst, h⟩ := confL_cons h
  obtain ⟨_, _, rfl, hwt, h⟩ := confL_cons h
  obtain ⟨_, _, rfl, hal, h⟩ := confL_cons h
  obtain ⟨_, _, rfl, hsp, h⟩ := confL_cons h
  obtain ⟨_, _, rfl, hlb, h⟩ := confL_cons h
  obtain rfl := confL_nil h
  obtain ⟨rg, rfl⟩ := conf_regs hrg
  obtain ⟨pc, rfl⟩ := conf_int hpc
  obtain ⟨cl, rfl⟩ := conf_label hcl
  obtain ⟨s1, s2, rfl⟩ := conf_ref hs
  obtain ⟨hd, rfl⟩ := conf_int hhd
  obtain ⟨ve, rfl⟩ := conf_int hve
  obtain ⟨st, rfl⟩ := conf_int hst
  obtain ⟨wt, rfl⟩ := conf_wait hwt
  obtain ⟨al, rfl⟩ := conf_u hal
  obtain ⟨sp1, sp2, rfl⟩ := conf_ref hsp
  obtain ⟨lb, rfl⟩ := conf_four hlb
  exact ⟨⟨rg, pc, cl, ⟨s1, s2⟩, hd, ve, st, wt, al, ⟨sp1, sp2⟩, lb⟩, rfl⟩
theorem conf_object {ds : List D} (h : Conf shObject ds) : ∃ t : XObject, ds = t.enc.cells := by
  have h := conf_row h
  obtain ⟨_, _, rfl, hi, h⟩ := confL_cons h
  obtain ⟨_, _, rfl, hkd, h⟩ := confL_cons h
  obtain ⟨_, _, rfl, hl, h⟩ := confL_cons h
  obtain ⟨_, _, rfl, hq, h⟩ := confL_cons h
  obtain ⟨_, _, rfl, hfx, h⟩ := confL_cons h
  obtain ⟨_, _, rfl, hli, h⟩ := confL_cons h
  obtain ⟨_, _, rfl, hda, h⟩ := confL_cons h
  obtain ⟨_, _, rfl, hma, h⟩ := confL_cons h
  obtain ⟨_, _, rfl, hth, h⟩ := confL_cons h
  obtain ⟨_, _, rfl, hga, h⟩ := confL_cons h
  obtain ⟨_, _, rfl, hi1, h⟩ := confL_cons h
  obtain ⟨_, _, rfl, ho1, h⟩ := confL_cons h
  obtain rfl := confL_nil h
  obtain ⟨i, rfl⟩ := conf_int hi
  obtain ⟨kd, rfl⟩ := conf_int hkd
  obtain ⟨l, rfl⟩ := conf_label hl
  obtain ⟨q, rfl⟩ := conf_int hq
  obtain ⟨fx, rfl⟩ := conf_bool hfx
  obtain ⟨li, rfl⟩ := conf_u hli
  obtain ⟨da, rfl⟩ := conf_u hda
  obtain ⟨ma, rfl⟩ := conf_maps hma
  obtain ⟨th, rfl⟩ := conf_thread hth
  obtain ⟨ga, rfl⟩ := conf_gate hga
  obtain ⟨i1, rfl⟩ := conf_u hi1
  obtain ⟨o1, rfl⟩ := conf_u ho1
  exact ⟨⟨i, kd, l, q, fx, li, da, ma, th, ga, i1, o1⟩, rfl⟩
theorem conf_objs {ds : List D} (h : Conf (.sl true shObject) ds) : ∃ l : List XObject, ds = [encL XObject.enc l] := by
  rw [Conf] at h
  obtain ⟨xs, rfl, hx⟩ := h
  obtain ⟨l, rfl⟩ := conf_list (f := XObject.enc) (xs := xs) fun x hm => by
    obtain ⟨h1, h2, _⟩ := hx x hm
    obtain ⟨o, ho⟩ := conf_object h1
    exact ⟨o, (agg_of ho (h2 rfl)).trans rfl⟩
  exact ⟨l, rfl⟩
theorem conf_world {ds : List D} (h : Conf shWorld ds) : ∃ t : XWorld, ds = t.enc.cells := by
  have h := conf_row h
  obtain ⟨_, _, rfl, ht, h⟩ := confL_cons h
  obtain ⟨_, _, rfl, ha, h⟩ := confL_cons h
  obtain ⟨_, _, rfl, hb, h⟩ := confL_cons h
  obtain ⟨_, _, rfl, hos, h⟩ := confL_cons h
  obtain rfl := confL_nil h
  obtain ⟨t, rfl⟩ := conf_int ht
  obtain ⟨a, rfl⟩ := conf_int ha
  obtain ⟨b, rfl⟩ := conf_int hb
  obtain ⟨os, rfl⟩ := conf_objs hos
  exact ⟨⟨t, a, b, os⟩, rfl⟩
end Go.Proofs.Ytijkiddfobojaaa
