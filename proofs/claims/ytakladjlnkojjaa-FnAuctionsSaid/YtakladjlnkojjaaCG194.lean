/-
  Contracts: bids and numbers of a code (the reference's draws). No condition.
-/
import Derived.Test.YtakladjlnkojjaaCG192
import Derived.Test.YtakladjlnkojjaaCG193
import Derived.Test.YtakladjlnkojjaaCB2
namespace Go.Proofs.Ytakladjlnkojjaa.Ax
open Go Go.RowKit
set_option linter.unusedSimpArgs false

/-- The bids of a code. -/
def mkBids (by' : List Int) : List (Bool × List Int) := drA by' (cr0 by') 3 3 15
theorem makeBids_call {nl : Bool} {by' : List Int} (hlen : by'.length ≤ 1048576) : CallOk Try.prog 6 [byts nl by', int 0] (.sl false 1 ((mkBids by').map row)) := by
  have hnew := l32New_new (nl := nl) hlen 0 (by omega)
  have hcur := l27Draw_cur (nl := nl) (cr0_ok hlen)
  have hG : FnsOk Try.prog [] := .nil
  refine callOk_of_new (s1 := crN by' (cr0 by') (2 + drN by' (cr0 by') 3 * drG by' (cr0 by') 3)) Try.func6 rfl (by kernel_rfl) (new_fn (dt := []) (ctx_ok eqOk hG) Try.func6 rfl (by kernel_rfl) rfl (by rfl) (pre := [_, _]) rfl rfl rfl (by rfl) (by rfl) (by rfl) (by rfl) hnew fun w F0 code b hbytes hF0 hbF => ?_)
  simp [Try.f6, List.range, List.range.loop, ints, intss, int, bool, row, frac, fracs, ← List.map_take, ← List.map_drop, byts]
  refine tyo_cur hbytes hF0 hbF hcur rfl rfl rfl (by rfl) (by rfl) (by rfl) ?_
  simp [List.range, List.range.loop, ints, intss, int, bool, row, frac, fracs, ← List.map_take, ← List.map_drop]
  refine tyo_ops 1 (ctx_ok eqOk hG) curJ_stable (by simp) ?_
  simp [List.range, List.range.loop, ints, intss, int, bool, row, frac, fracs, ← List.map_take, ← List.map_drop]
  refine tyo_end (by simp) ?_
  simp only [thenY_normal]
  refine ty_awp (ctx_ok eqOk hG) mixed curJ_stable (live := [true, true, false, false, true]) fun X A w1 => ?_
  simp [List.range, List.range.loop, ints, intss, int, bool, row, frac, fracs, ← List.map_take, ← List.map_drop, thenY_ret, mkBids]

/-- Number n of a code. -/
def mkNum (by' : List Int) (n : Nat) : Int := crX by' (crB by' n) * 256 + crX by' (crB by' (n + 1))
theorem mkNum_bd {by' : List Int} {n : Nat} : 0 ≤ mkNum by' n ∧ mkNum by' n ≤ 65535 := by
  have h1 := crX_bd (by' := by') (s := crB by' n)
  have h2 := crX_bd (by' := by') (s := crB by' (n + 1))
  unfold mkNum; omega
theorem makeNum_call {nl : Bool} {by' : List Int} (hlen : by'.length ≤ 1048576) (n : Nat) (hn : n ≤ 1000) : CallOk Try.prog 15 [byts nl by', int n] (.v (.int .i64 (mkNum by' n))) := by
  have hnew := l32New_new (nl := nl) hlen n hn
  have hcur := fun (k : Nat) => l01Byte_cur (nl := nl) (crN_ok (cr0_ok hlen) k)
  have h1 := crX_bd (by' := by') (s := crB by' n)
  have h2 := crX_bd (by' := by') (s := crB by' (n + 1))
  have hmn : mkNum by' n = crX by' (crB by' n) * 256 + crX by' (crB by' (n + 1)) := rfl
  have hG : FnsOk Try.prog [] := .nil
  refine callOk_of_new (s1 := crB by' (n + 2)) Try.func15 rfl (by kernel_rfl) (new_fn (dt := []) (ctx_ok eqOk hG) Try.func15 rfl (by kernel_rfl) rfl (by rfl) (pre := [_, _]) rfl rfl rfl (by rfl) (by rfl) (by rfl) (by rfl) hnew fun w F0 code b hbytes hF0 hbF => ?_)
  simp [Try.f15, List.range, List.range.loop, ints, intss, int, bool, row, frac, fracs, ← List.map_take, ← List.map_drop, byts]
  refine tyo_ops 1 (ctx_ok eqOk hG) curJ_stable (by simp) ?_
  simp [List.range, List.range.loop, ints, intss, int, bool, row, frac, fracs, ← List.map_take, ← List.map_drop]
  refine tyo_end (by simp) ?_
  simp only [thenY_normal]
  refine ty_seq (ty_reg (tyo_ops 1 (ctx_ok eqOk hG) curJ_stable (by simp) ?_))
  simp [List.range, List.range.loop, ints, intss, int, bool, row, frac, fracs, ← List.map_take, ← List.map_drop]
  refine tyo_cur hbytes hF0 hbF (hcur n) rfl rfl rfl (by rfl) (by rfl) (by rfl) ?_
  simp [List.range, List.range.loop, ints, intss, int, bool, row, frac, fracs, ← List.map_take, ← List.map_drop]
  refine tyo_ops 2 (ctx_ok eqOk hG) curJ_stable (by simp) ?_
  simp [List.range, List.range.loop, ints, intss, int, bool, row, frac, fracs, ← List.map_take, ← List.map_drop]
  refine tyo_cur hbytes hF0 hbF (hcur (n + 1)) rfl rfl rfl (by rfl) (by rfl) (by rfl) ?_
  simp [List.range, List.range.loop, ints, intss, int, bool, row, frac, fracs, ← List.map_take, ← List.map_drop]
  refine tyo_ops 2 (ctx_ok eqOk hG) curJ_stable (by simp) ?_
  have e1 : crN by' (cr0 by') n = crB by' n := rfl
  have e2 : crN by' (cr0 by') (n + 1) = crB by' (n + 1) := rfl
  rw [e1, e2]
  generalize crX by' (crB by' n) = x at *
  generalize crX by' (crB by' (n + 1)) = y at *
  have hw1 : IntKind.i64.wrap (x * 256) = x * 256 := wrapI (by omega) (by omega)
  have hw2 : IntKind.i64.wrap (x * 256 + y) = x * 256 + y := wrapI (by omega) (by omega)
  simp [List.range, List.range.loop, ints, intss, int, bool, row, frac, fracs, ← List.map_take, ← List.map_drop, hw1, hw2]
  refine tyo_end (by simp) ?_
  simp only [thenY_normal]
  refine ty_awp (ctx_ok eqOk hG) mixed curJ_stable (live := [true, true, false, false, true, true]) fun X A w1 => ?_
  simp [List.range, List.range.loop, ints, intss, int, bool, row, frac, fracs, ← List.map_take, ← List.map_drop, thenY_ret, hmn]
  rfl

theorem map_bAV_inj {a b : List Int} : a.map bAV = b.map bAV ↔ a = b := List.map_inj_right (fun x y h => by simpa [bAV] using h)
noncomputable def mMkBids : List AV → Option AV := mk (fun p => p.2.length ≤ 1048576) (fun (p : Bool × List Int) => [byts p.1 p.2, int 0]) (fun p => .sl false 1 ((mkBids p.2).map row))
theorem mMkBids_at (nl : Bool) (by' : List Int) (h : by'.length ≤ 1048576) : mMkBids [.sl nl 1 (by'.map bAV), .v (.int .i64 0)] = some (.sl false 1 ((mkBids by').map row)) :=
  mk_eq (enc := fun (p : Bool × List Int) => [byts p.1 p.2, int 0]) (x := (nl, by')) (by rintro ⟨a, b⟩ ⟨c, d⟩ h; simp [byts, map_bAV_inj] at h; simp [h]) h
theorem makeBids_ok : FnOk Try.prog 6 mMkBids := by
  refine mk_ok fun ⟨nl, by'⟩ h => ?_
  exact makeBids_call h
noncomputable def mMkNum : List AV → Option AV := mk (fun p => p.2.1.length ≤ 1048576 ∧ p.2.2 ≤ 1000) (fun (p : Bool × List Int × Nat) => [byts p.1 p.2.1, int (p.2.2 : Int)]) (fun p => int (mkNum p.2.1 p.2.2))
theorem mMkNum_at (nl : Bool) (by' : List Int) (n : Nat) (h : by'.length ≤ 1048576 ∧ n ≤ 1000) : mMkNum [.sl nl 1 (by'.map bAV), .v (.int .i64 (n : Int))] = some (.v (.int .i64 (mkNum by' n))) :=
  mk_eq (enc := fun (p : Bool × List Int × Nat) => [byts p.1 p.2.1, int (p.2.2 : Int)]) (x := (nl, by', n)) (by rintro ⟨a, b, c⟩ ⟨d, e, f⟩ h; simp [byts, int, map_bAV_inj] at h; obtain ⟨⟨rfl, rfl⟩, h⟩ := h; simp only; rw [show c = f by omega]) h
theorem makeNum_ok : FnOk Try.prog 15 mMkNum := by
  refine mk_ok fun ⟨nl, by', n⟩ h => ?_
  exact makeNum_call h.1 n h.2

theorem drT_all {by' : List Int} {s : Int × Int} {m g n : Nat} (hm : 0 < m) : ∀ r ∈ drT by' s m g n, r.1 = false ∧ r.2.length = g ∧ ∀ x ∈ r.2, 0 ≤ x ∧ x < (m : Int) := by
  intro r hr
  obtain ⟨i, _, rfl⟩ := List.mem_map.1 hr
  refine ⟨rfl, drR_len, fun x hx => ?_⟩
  obtain ⟨j, _, rfl⟩ := List.mem_map.1 hx
  exact bk_bd hm
theorem drT_rect {by' : List Int} {s : Int × Int} {m g n : Nat} {a b c : Int} (hm : 0 < m) (hn1 : 1 ≤ n) (hn : (n : Int) ≤ a) (hg1 : 1 ≤ g) (hg : (g : Int) ≤ b) (hc : (m : Int) ≤ c + 1) : rectB (drT by' s m g n) a b c = true ∧ wid (drT by' s m g n) = g := by
  have hall := drT_all (by' := by') (s := s) (g := g) (n := n) hm
  have hl := drT_len (by' := by') (s := s) (m := m) (g := g) (n := n)
  generalize drT by' s m g n = L at *
  cases L with
  | nil => simp at hl; omega
  | cons r0 l =>
    have h0 := (hall r0 (by simp)).2.1
    refine ⟨?_, h0⟩
    simp only [rectB, Bool.and_eq_true, inR, decide_eq_true_eq, List.all_eq_true]
    refine ⟨⟨⟨by omega, by omega⟩, by omega, by omega⟩, fun r hr => ?_⟩
    obtain ⟨_, h1, h2⟩ := hall r hr
    simp only [rowIs, Bool.and_eq_true, decide_eq_true_eq, List.all_eq_true, inR]
    exact ⟨by omega, fun x hx => by have := h2 x hx; omega⟩
/-- What the bids are. -/
theorem mkBids_rect (by' : List Int) : rectB (mkBids by') 4 4 1000 = true ∧ (mkBids by').length ≤ 3 ∧ wid (mkBids by') ≤ 3 := by
  obtain ⟨n1, n2, _⟩ := drN_bd (by' := by') (s := cr0 by') (a := 3) (by omega)
  obtain ⟨g1, g2, _⟩ := drG_bd (by' := by') (s := cr0 by') (b := 3) (by omega)
  obtain ⟨h1, h2⟩ := drT_rect (by' := by') (s := cr0 by') (m := 15) (g := drG by' (cr0 by') 3) (n := drN by' (cr0 by') 3) (a := 4) (b := 4) (c := 1000) (by omega) n1 (by omega) g1 (by omega) (by omega)
  refine ⟨h1, ?_, ?_⟩
  · show (drT by' (cr0 by') 15 _ _).length ≤ 3
    rw [drT_len]; exact n2
  · show wid (drT by' (cr0 by') 15 _ _) ≤ 3
    rw [h2]; exact g2

end Go.Proofs.Ytakladjlnkojjaa.Ax
