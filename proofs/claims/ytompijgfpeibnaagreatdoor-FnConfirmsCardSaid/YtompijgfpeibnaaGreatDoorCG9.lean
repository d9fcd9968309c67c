/-
 Contracts: a cursor's next byte (the reference's draws). No condition.
-/
import Derived.Test.YtompijgfpeibnaaGreatDoorCK4
import Derived.Test.YtompijgfpeibnaaGreatDoorCB8
import Derived.Deep.QuietTactic
import Derived.BigQuiet
import Derived.Ground.NamesProg
import Derived.Shelf.LaysM
import Derived.Shelf.Strconv.Itoa3
import Derived.Test.YtompijgfpeibnaaGreatDoorCB7
namespace Go.Proofs.YtompijgfpeibnaaGreatDoor.Ax
open Go Go.RowKit
set_option linter.unusedSimpArgs false
def bAV (n : Int) : AV := .v (.int .u8 n)
def byts (nl : Bool) (l : List Int) : AV := .sl nl 1 (l.map bAV)
def stB (h : Int) : Int := wrap64 (wrap64 (h * 6364136223846793005) + 1442695040888963407)
def byB (h : Int) : Int := bits .and .i64 (bits .xor .i64 (stB h / 8589934592) (stB h / 35184372088832)) 255
def crX (by' : List Int) (s : Int × Int) : Int := if s.1 < (by'.length : Int) then bits .and .i64 (wrap64 (byB s.2 + wrap64 (by'.getD s.1.toNat 0))) 255 else byB s.2
def crS (by' : List Int) (s : Int × Int) : Int × Int := if s.1 < (by'.length : Int) then (wrap64 (s.1 + 1), stB s.2) else (s.1, stB s.2)
theorem and255 (x : Int) : 0 ≤ bits .and .i64 x 255 ∧ bits .and .i64 x 255 ≤ 255 := by
 have h : (BitVec.ofInt IntKind.i64.bits x &&& BitVec.ofInt IntKind.i64.bits 255).toNat ≤ 255 := by
  rw [BitVec.toNat_and]
  exact Nat.le_trans Nat.and_le_right (by decide)
 have e : bits .and .i64 x 255 = IntKind.i64.wrap ((BitVec.ofInt IntKind.i64.bits x &&& BitVec.ofInt IntKind.i64.bits 255).toNat : Int) := rfl
 rw [e, wrapI (by omega) (by omega)]
 omega
theorem crX_bd {by' : List Int} {s : Int × Int} : 0 ≤ crX by' s ∧ crX by' s ≤ 255 := by
 unfold crX byB; split <;> exact and255 _
structure CrOk (by' : List Int) (s : Int × Int) : Prop where
 few : by'.length ≤ 1048576
 i0 : 0 ≤ s.1
 il : s.1 ≤ (by'.length : Int)
theorem CrOk.next {by' : List Int} {s : Int × Int} (h : CrOk by' s) : CrOk by' (crS by' s) := by
 have h1 := h.few; have h2 := h.i0; have h3 := h.il
 unfold crS
 split
 ·have e : wrap64 (s.1 + 1) = s.1 + 1 := by unfold wrap64; omega
  exact ⟨h1, by simp only [e]; omega, by simp only [e]; omega⟩
 ·exact ⟨h1, h2, h3⟩
theorem cur_heap {code : Value} {T : TypeId} {b : Nat} {w : World} {i h u v : Int} {n : Nat} (hb : w.heap[b]? = some (curC code T (i, h))) :
  ((((w.setCell ⟨b, 2, none⟩ (.int .i64 u)).drewN n).setCell ⟨b, 1, none⟩ (.int .i64 v)).heap[b]? = some (curC code T (v, u)) ∧ Frm (fun x => x = b) w (((w.setCell ⟨b, 2, none⟩ (.int .i64 u)).drewN n).setCell ⟨b, 1, none⟩ (.int .i64 v))) ∧
  (((w.setCell ⟨b, 2, none⟩ (.int .i64 u)).drewN n).heap[b]? = some (curC code T (i, u)) ∧ Frm (fun x => x = b) w ((w.setCell ⟨b, 2, none⟩ (.int .i64 u)).drewN n)) := by
 refine ⟨⟨?_, rfl, rfl, rfl, ?_, fun k _ hk => ?_⟩, ?_, rfl, rfl, rfl, ?_, fun k _ hk => ?_⟩
 ·simp [World.setCell, World.drewN, Array.getElem?_modify, hb, curC]
 ·simp [World.setCell, World.drewN]
 ·have : ¬ b = k := fun e => hk e.symm
  simp [World.setCell, World.drewN, Array.getElem?_modify, this]
 ·simp [World.setCell, World.drewN, Array.getElem?_modify, hb, curC]
 ·simp [World.setCell, World.drewN]
 ·have : ¬ b = k := fun e => hk e.symm
  simp [World.setCell, World.drewN, Array.getElem?_modify, this]
theorem cur_heap2 {code : Value} {T : TypeId} {b : Nat} {w : World} {i h u : Int} {m n : Nat} (hb : w.heap[b]? = some (curC code T (i, h))) :
  (((w.setCell ⟨b, 2, none⟩ (.int .i64 u)).drewN m).drewN n).heap[b]? = some (curC code T (i, u)) ∧ Frm (fun x => x = b) w (((w.setCell ⟨b, 2, none⟩ (.int .i64 u)).drewN m).drewN n) := by
 refine ⟨?_, rfl, rfl, rfl, ?_, fun k _ hk => ?_⟩
 ·simp [World.setCell, World.drewN, Array.getElem?_modify, hb, curC]
 ·simp [World.setCell, World.drewN]
 ·have : ¬ b = k := fun e => hk e.symm
  simp [World.setCell, World.drewN, Array.getElem?_modify, this]
section
variable (b : Nat) (w : World) (ad : Option Addr) (len cap : Nat)
theorem l01Byte_in (i : Nat) (h : Int) (hb : w.heap[b]? = some (curC (.slice ad len cap) 63 (i, h))) (v : Int) (cb co : Nat) (had : ad = some ⟨cb, co, none⟩) (hne : cb ≠ b) (hcv : w.cell? ⟨cb, co + i, none⟩ = some (.int .u8 v)) (hlt : i < len) :
  Calls Tryz.prog 14 #[ptrV b] w fun e w' => e = .returned (.int .i64 (bits .and .i64 (wrap64 (byB h + wrap64 v)) 255)) ∧ Frm (fun x => x = b) w w' ∧ w'.heap[b]? = some (curC (.slice ad len cap) 63 (wrap64 (i + 1), stB h)) := by
 have hc0 : w.cell? ⟨b, 0, none⟩ = some (.slice ad len cap) := by simp [World.cell?, hb, curC]
 have hc1 : w.cell? ⟨b, 1, none⟩ = some (.int .i64 i) := by simp [World.cell?, hb, curC]
 have hc2 : w.cell? ⟨b, 2, none⟩ = some (.int .i64 h) := by simp [World.cell?, hb, curC]
 have hf1 : w.frozen? ⟨b, 1, none⟩ = false := by simp [World.frozen?, hb, curC]
 have hf2 : w.frozen? ⟨b, 2, none⟩ = false := by simp [World.frozen?, hb, curC]
 unfold ptrV byB stB
 subst had
 have hlt' : (i : Int) < (len : Int) := by omega
 go_enter Tryz.func14, Tryz.ntmps14
 go_wp2
 go_quiet (fail)
 go_wp2
 go_quiet (fail)
 go_wp2
 go_quiet (fail)
 go_wp2
 go_ret
 exact ⟨rfl, (cur_heap hb).1.2, (cur_heap hb).1.1⟩
theorem l01Byte_out (i h : Int) (hb : w.heap[b]? = some (curC (.slice ad len cap) 63 (i, h))) (hlt : ¬ i < (len : Int)) :
  Calls Tryz.prog 14 #[ptrV b] w fun e w' => e = .returned (.int .i64 (byB h)) ∧ Frm (fun x => x = b) w w' ∧ w'.heap[b]? = some (curC (.slice ad len cap) 63 (i, stB h)) := by
 have hc0 : w.cell? ⟨b, 0, none⟩ = some (.slice ad len cap) := by simp [World.cell?, hb, curC]
 have hc1 : w.cell? ⟨b, 1, none⟩ = some (.int .i64 i) := by simp [World.cell?, hb, curC]
 have hc2 : w.cell? ⟨b, 2, none⟩ = some (.int .i64 h) := by simp [World.cell?, hb, curC]
 have hf1 : w.frozen? ⟨b, 1, none⟩ = false := by simp [World.frozen?, hb, curC]
 have hf2 : w.frozen? ⟨b, 2, none⟩ = false := by simp [World.frozen?, hb, curC]
 unfold ptrV byB stB
 go_enter Tryz.func14, Tryz.ntmps14
 go_wp2
 go_quiet (fail)
 go_wp2
 go_quiet (fail)
 go_wp2
 all_goals (go_ret; exact ⟨rfl, (cur_heap2 hb).2, (cur_heap2 hb).1⟩)
end
theorem l01Byte_cur {nl : Bool} {by' : List Int} {s : Int × Int} (hs : CrOk by' s) : CurOk Tryz.prog 14 (byts nl by') 63 [] s (crS by' s) (.v (.int .i64 (crX by' s))) := by
 refine ⟨⟨_, Tryz.func14, by kernel_rfl, by kernel_rfl⟩, fun code b w F vals hbytes hb hF hbF hvals => ?_⟩
 simp only [RepL] at hvals
 subst hvals
 obtain ⟨i, h⟩ := s
 have h0 := hs.i0
 simp only at h0
 simp only [byts, Rep, List.length_map] at hbytes
 obtain ⟨ad, len, cap, rfl, hlen, _, _, hrow⟩ := hbytes
 subst hlen
 by_cases hi : i < (by'.length : Int)
 ·have hin : i.toNat < by'.length := by omega
  rcases hrow with ⟨_, _, hz, _⟩ | ⟨cb, co, rfl, _, hrow⟩ | ⟨_, _, hz⟩
  ·omega
  ·obtain ⟨z, h1, _, _, hFb, h4⟩ := RepRow.get hrow i.toNat (bAV by'[i.toNat]) (by rw [List.getElem?_map, List.getElem?_eq_getElem hin]; rfl)
   simp only [Rep, bAV] at h1
   obtain ⟨rfl, _⟩ := h1
   have hcv : w.cell? ⟨cb, co + i.toNat, none⟩ = some (.int .u8 (by'.getD i.toNat 0)) := by
    rw [List.getD_eq_getElem?_getD, List.getElem?_eq_getElem hin]
    simpa using h4 0 (.int .u8 by'[i.toNat]) (by simp [Value.cells])
   obtain ⟨i, rfl⟩ := Int.eq_ofNat_of_zero_le h0
   rw [Int.toNat_natCast] at hin hcv
   refine (l01Byte_in b w _ by'.length cap i h hb _ cb co rfl (fun e => hbF (e ▸ hFb)) hcv hin).mono fun e w' he => ?_
   obtain ⟨rfl, hfr, hw⟩ := he
   refine ⟨_, fun _ => False, rfl, hfr, ?_, fun _ h => h.elim, ?_⟩
   ·rw [hw]; simp only [crS, if_pos hi]
   ·simp only [Own, crX, if_pos hi, Int.toNat_natCast, Value.oneCell', and_self]
  ·simp only [List.map_eq_nil_iff] at hz
   subst hz; simp at hin
 ·refine (l01Byte_out b w ad by'.length cap i h hb hi).mono fun e w' he => ?_
  obtain ⟨rfl, hfr, hw⟩ := he
  refine ⟨_, fun _ => False, rfl, hfr, ?_, fun _ h => h.elim, ?_⟩
  ·rw [hw]; simp only [crS, if_neg hi]
  ·simp only [Own, crX, if_neg hi, Value.oneCell', and_self]
open Go Go.RowKit
set_option linter.unusedSimpArgs false
def crN (by' : List Int) (s : Int × Int) : Nat → Int × Int
 | 0 => s
 | k + 1 => crS by' (crN by' s k)
theorem crN_ok {by' : List Int} {s : Int × Int} (h : CrOk by' s) : ∀ k, CrOk by' (crN by' s k)
 | 0 => h
 | k + 1 => (crN_ok h k).next
open Go Go.RowKit
set_option linter.unusedSimpArgs false
def hN (by' : List Int) : Nat → Int
 | 0 => IntKind.i64.wrap (2139 + by'.length)
 | k + 1 => bits .and .i64 (IntKind.i64.wrap (IntKind.i64.wrap (IntKind.i64.wrap (hN by' k * 149) + IntKind.i64.wrap (by'.getD k 0)) + 7)) 1073741823
def cr0 (by' : List Int) : Int × Int := (0, hN by' (min by'.length 4000))
theorem cr0_ok {by' : List Int} (h : by'.length ≤ 1048576) : CrOk by' (cr0 by') := ⟨h, Int.le_refl _, by unfold cr0; omega⟩
set_option maxRecDepth 8000 in
set_option maxHeartbeats 2000000 in
theorem l01New_new {nl : Bool} {by' : List Int} (hlen : by'.length ≤ 1048576) : NewOk Tryz.prog 21 (byts nl by') 63 [] (cr0 by') := by
 have hG : FnsOk Tryz.prog [] := .nil
 refine newOk_of_tye (dt := []) (d := 2) Tryz.func21 rfl (by kernel_rfl) (by kernel_rfl) rfl fun w F => ?_
 refine ty_seqE (ty_awp (ctx_ok eqOk hG) mixed noJ_stable (live := [true, false, true, true, true, false, false, false, false, false, false, false, false, false, false, true]) fun X A w1 => ?_)
 simp [Tryz.f21, List.range, List.range.loop, ints, intss, int, bool, row, frac, fracs, ← List.map_take, ← List.map_drop, thenY_normal, byts]
 refine ty_seqE (ty_awp (ctx_ok eqOk hG) mixed noJ_stable (live := [true, false, true, true, true, false, false, false, false, false, false, false, false, false, false, true]) fun X A w1 => ?_)
 simp [List.range, List.range.loop, ints, intss, int, bool, row, frac, fracs, ← List.map_take, ← List.map_drop, thenY_normal]
 have hr0 : IntKind.i64.wrap (2139 + (by'.length : Int)) = hN by' 0 := rfl
 rw [hr0]
 refine ty_seqE (ty_seq (ty_awp (ctx_ok eqOk hG) mixed noJ_stable (live := [true, false, true, true, true, false, false, false, false, false, false, false, false, false, false, true]) fun X A w1 => ?_))
 simp [List.range, List.range.loop, ints, intss, int, bool, row, frac, fracs, ← List.map_take, ← List.map_drop, thenY_normal]
 refine ty_block (ty_loop (α := {k : Nat // k ≤ min by'.length 4000}) (fun k => ⟨[.sl nl 1 (by'.map bAV), .junk, .junk, int (hN by' k.1), int k.1, .junk, .junk, .junk, .junk, .junk, .junk, .junk, .junk, .junk, .junk, .junk, .junk, .junk, .junk, .junk, .junk, .junk, .junk, .junk, .junk, .junk, .junk, .junk, .junk, .junk, .junk, .junk], []⟩) (fun _ => ()) (fun k => 4000 - k.1) ⟨0, Nat.zero_le _⟩ ⟨?_, rfl⟩ ?_)
 ·simp [sub, slotsLe, clean, keep, refsL, refs, once, place, renL, ren, List.replicate, int, bool]
 rintro ⟨k, hk⟩
 by_cases hkl : k < by'.length
 ·have hki : (k : Int) < (by'.length : Int) := by omega
  by_cases hk4 : k < 4000
  ·have hk4i : (k : Int) < 4000 := by omega
   have hgd : by'.getD k 0 = by'[k] := by simp [List.getD_eq_getElem?_getD, hkl]
   refine ty_seq (ty_awp (ctx_ok eqOk hG) mixed noJ_stable (live := [true, false, true, true, true, false, false, false, false, false, false, false, false, false, false, true]) fun X A w1 => ?_)
   simp [List.range, List.range.loop, ints, intss, int, bool, row, frac, fracs, ← List.map_take, ← List.map_drop, thenY_normal, hkl, hki, hk4, hk4i]
   refine ty_seq (ty_block (ty_reg (tyo_ops 9 (ctx_ok eqOk hG) noJ_stable (by simp) ?_)))
   simp [List.range, List.range.loop, ints, intss, int, bool, row, frac, fracs, ← List.map_take, ← List.map_drop, hkl, bAV]
   refine tyo_bin (r := .int .i64 (hN by' (k + 1))) rfl rfl rfl (by rfl) (by rfl) (fun W => ?_) rfl ?_
   ·rw [hN, hgd]
    simp [eqGuard, binOp, Op.intArith, Op.intCmp]
    rfl
   refine tyo_ops 1 (ctx_ok eqOk hG) noJ_stable (by simp) ?_
   simp [List.range, List.range.loop, ints, intss, int, bool, row, frac, fracs, ← List.map_take, ← List.map_drop]
   refine tyo_end (by simp) ?_
   simp only [thenY_normal, inBY_normal]
   refine ty_awp (ctx_ok eqOk hG) mixed noJ_stable (live := [true, false, true, true, true, false, false, false, false, false, false, false, false, false, false, true]) fun X A w1 => ?_
   have hwk : IntKind.i64.wrap ((k : Int) + 1) = (k : Int) + 1 := wrapI (by omega) (by omega)
   simp [List.range, List.range.loop, ints, intss, int, bool, row, frac, fracs, ← List.map_take, ← List.map_drop, thenY_normal, hwk]
   exact ⟨⟨k + 1, by omega⟩, by simp [sub, slotsLe, clean, keep, refsL, refs, once, place, renL, ren, List.replicate, int, bool], rfl, by simp; omega⟩
  ·have hk4i : ¬ (k : Int) < 4000 := by omega
   have hkm : k = min by'.length 4000 := by omega
   refine ty_seq (ty_awp (ctx_ok eqOk hG) mixed noJ_stable (live := [true, false, true, true, true, false, false, false, false, false, false, false, false, false, false, true]) fun X A w1 => ?_)
   simp [List.range, List.range.loop, ints, intss, int, bool, row, frac, fracs, ← List.map_take, ← List.map_drop, thenY_normal, thenY_exit, inBY_exit, hkl, hki, hk4, hk4i]
   rw [show cr0 by' = (0, hN by' k) by unfold cr0; rw [← hkm]]
   refine tye_box (ctx_ok eqOk hG) (pre := [_, _, _]) rfl rfl rfl rfl (.inr rfl) rfl rfl ?_
   simp [List.range, List.range.loop, ints, intss, int, bool, row, frac, fracs, ← List.map_take, ← List.map_drop]
 ·have hki : ¬ (k : Int) < (by'.length : Int) := by omega
  have hkm : k = min by'.length 4000 := by omega
  refine ty_seq (ty_awp (ctx_ok eqOk hG) mixed noJ_stable (live := [true, false, true, true, true, false, false, false, false, false, false, false, false, false, false, true]) fun X A w1 => ?_)
  simp [List.range, List.range.loop, ints, intss, int, bool, row, frac, fracs, ← List.map_take, ← List.map_drop, thenY_normal, thenY_exit, inBY_exit, hkl, hki]
  rw [show cr0 by' = (0, hN by' k) by unfold cr0; rw [← hkm]]
  refine tye_box (ctx_ok eqOk hG) (pre := [_, _, _]) rfl rfl rfl rfl (.inr rfl) rfl rfl ?_
  simp [List.range, List.range.loop, ints, intss, int, bool, row, frac, fracs, ← List.map_take, ← List.map_drop]
def crB (by' : List Int) (n : Nat) : Int × Int := crN by' (cr0 by') n
set_option maxRecDepth 8000 in
set_option maxHeartbeats 2000000 in
theorem l32New_new {nl : Bool} {by' : List Int} (hlen : by'.length ≤ 1048576) (n : Nat) (hn : n ≤ 1000) : NewOk Tryz.prog 13 (byts nl by') 63 [int (n : Int)] (crB by' n) := by
 have hnew := l01New_new (nl := nl) hlen
 have hcur := fun (k : Nat) => l01Byte_cur (nl := nl) (crN_ok (cr0_ok hlen) k)
 have hG : FnsOk Tryz.prog [] := .nil
 refine newOk_of Tryz.func13 rfl (by kernel_rfl) (new_fn (dt := []) (R := fun b => .v (ptrV b)) (ctx_ok eqOk hG) Tryz.func13 rfl (by kernel_rfl) rfl (by rfl) (pre := [_]) rfl rfl rfl (by rfl) (by rfl) (by rfl) (by rfl) hnew fun w F0 B0 code b hbytes hF0 hbF => ?_)
 simp [Tryz.f13, List.range, List.range.loop, ints, intss, int, bool, row, frac, fracs, ← List.map_take, ← List.map_drop, byts]
 refine tyo_ops 1 (ctx_ok eqOk hG) curJ_stable (by simp) ?_
 simp [List.range, List.range.loop, ints, intss, int, bool, row, frac, fracs, ← List.map_take, ← List.map_drop]
 refine tyo_end (by simp) ?_
 simp only [thenY_normal]
 refine ty_seq (ty_seq (ty_awp (ctx_ok eqOk hG) mixed curJ_stable (live := [true, true, false, false, true, true, true, false, false, false, false, true]) fun X A w1 => ?_))
 simp [List.range, List.range.loop, ints, intss, int, bool, row, frac, fracs, ← List.map_take, ← List.map_drop, thenY_normal]
 refine ty_block (ty_loop (α := {k : Nat // k ≤ n}) (fun k => ⟨[.junk, int n, .junk, .junk, .junk, .v (ptrV b), int k.1, .junk, .junk, .junk, .junk, .junk, .junk, .junk, .junk, .junk, .junk], []⟩) (fun k => crB by' k.1) (fun k => n - k.1) ⟨0, Nat.zero_le _⟩ ⟨?_, rfl⟩ ?_)
 ·simp [sub, slotsLe, clean, keep, refsL, refs, once, place, renL, ren, List.replicate, int, bool]
 rintro ⟨k, hk⟩
 by_cases hkn : k < n
 ·refine ty_seq (ty_awp (ctx_ok eqOk hG) mixed curJ_stable (live := [true, true, false, false, true, true, true, false, false, false, false, true]) fun X A w1 => ?_)
  simp [List.range, List.range.loop, ints, intss, int, bool, row, frac, fracs, ← List.map_take, ← List.map_drop, thenY_normal, hkn]
  refine ty_seq (ty_block (ty_reg (tyo_ops 1 (ctx_ok eqOk hG) curJ_stable (by simp) ?_)))
  simp [List.range, List.range.loop, ints, intss, int, bool, row, frac, fracs, ← List.map_take, ← List.map_drop]
  refine tyo_cur hbytes hF0 hbF (hcur k) rfl rfl rfl (by rfl) (by rfl) (by rfl) ?_
  simp [List.range, List.range.loop, ints, intss, int, bool, row, frac, fracs, ← List.map_take, ← List.map_drop]
  refine tyo_end (by simp) ?_
  simp only [thenY_normal, inBY_normal]
  refine ty_awp (ctx_ok eqOk hG) mixed curJ_stable (live := [true, true, false, false, true, true, true, false, false, false, false, true]) fun X A w1 => ?_
  have hwk : IntKind.i64.wrap ((k : Int) + 1) = (k : Int) + 1 := wrapI (by omega) (by omega)
  simp [List.range, List.range.loop, ints, intss, int, bool, row, frac, fracs, ← List.map_take, ← List.map_drop, thenY_normal, hwk]
  exact ⟨⟨k + 1, hkn⟩, by simp [sub, slotsLe, clean, keep, refsL, refs, once, place, renL, ren, List.replicate, int, bool], rfl, by simp; omega⟩
 ·obtain rfl : k = n := by omega
  refine ty_seq (ty_awp (ctx_ok eqOk hG) mixed curJ_stable (live := [true, true, false, false, true, true, true, false, false, false, false, true]) fun X A w1 => ?_)
  simp [List.range, List.range.loop, ints, intss, int, bool, row, frac, fracs, ← List.map_take, ← List.map_drop, thenY_normal, thenY_exit, inBY_exit]
  refine ty_awp (ctx_ok eqOk hG) mixed curJ_stable (live := [true, true, false, false, true, true, true, false, false, false, false, true]) fun X A w1 => ?_
  simp [List.range, List.range.loop, ints, intss, int, bool, row, frac, fracs, ← List.map_take, ← List.map_drop, thenY_ret]
open Go Go.RowKit
set_option linter.unusedSimpArgs false
def mkNum (by' : List Int) (n : Nat) : Int := crX by' (crB by' n) * 256 + crX by' (crB by' (n + 1))
theorem mkNum_bd {by' : List Int} {n : Nat} : 0 ≤ mkNum by' n ∧ mkNum by' n ≤ 65535 := by
 have h1 := crX_bd (by' := by') (s := crB by' n)
 have h2 := crX_bd (by' := by') (s := crB by' (n + 1))
 unfold mkNum; omega
theorem makeNum_call {nl : Bool} {by' : List Int} (hlen : by'.length ≤ 1048576) (n : Nat) (hn : n ≤ 1000) : CallOk Tryz.prog 5 [byts nl by', int n] (.v (.int .i64 (mkNum by' n))) := by
 have hnew := l32New_new (nl := nl) hlen n hn
 have hcur := fun (k : Nat) => l01Byte_cur (nl := nl) (crN_ok (cr0_ok hlen) k)
 have h1 := crX_bd (by' := by') (s := crB by' n)
 have h2 := crX_bd (by' := by') (s := crB by' (n + 1))
 have hmn : mkNum by' n = crX by' (crB by' n) * 256 + crX by' (crB by' (n + 1)) := rfl
 have hG : FnsOk Tryz.prog [] := .nil
 refine callOk_of_new (s1 := crB by' (n + 2)) Tryz.func5 rfl (by kernel_rfl) (new_fn (dt := []) (ctx_ok eqOk hG) Tryz.func5 rfl (by kernel_rfl) rfl (by rfl) (pre := [_, _]) rfl rfl rfl (by rfl) (by rfl) (by rfl) (by rfl) hnew fun w F0 B0 code b hbytes hF0 hbF => ?_)
 simp [Tryz.f5, List.range, List.range.loop, ints, intss, int, bool, row, frac, fracs, ← List.map_take, ← List.map_drop, byts]
 refine tyo_ops 1 (ctx_ok eqOk hG) curJ_stable (by simp) ?_
 simp [List.range, List.range.loop, ints, intss, int, bool, row, frac, fracs, ← List.map_take, ← List.map_drop]
 refine tyo_end (by simp) ?_
 simp only [thenY_normal]
 refine ty_seq (ty_reg (tyo_ops 1 (ctx_ok eqOk hG) curJ_stable (by simp) ?_))
 simp [List.range, List.range.loop, ints, intss, int, bool, row, frac, fracs, ← List.map_take, ← List.map_drop]
 refine tyo_cur hbytes hF0 hbF (hcur n) rfl rfl rfl (by rfl) (by rfl) (by rfl) ?_
 simp [List.range, List.range.loop, ints, intss, int, bool, row, frac, fracs, ← List.map_take, ← List.map_drop]
 refine tyo_ops 2 (ctx_ok eqOk hG) curJ_stable (by simp) ?_
 simp [List.range, List.range.loop, ints, intss, int, bool, row, frac, fracs, ← List.map_take, ← List.map_drop]
 refine tyo_cur hbytes hF0 hbF (hcur (n + 1)) rfl rfl rfl (by rfl) (by rfl) (by rfl) ?_
 simp [List.range, List.range.loop, ints, intss, int, bool, row, frac, fracs, ← List.map_take, ← List.map_drop]
 refine tyo_ops 2 (ctx_ok eqOk hG) curJ_stable (by simp) ?_
 have e1 : crN by' (cr0 by') n = crB by' n := rfl
 have e2 : crN by' (cr0 by') (n + 1) = crB by' (n + 1) := rfl
 rw [e1, e2]
 generalize crX by' (crB by' n) = x at *
 generalize crX by' (crB by' (n + 1)) = y at *
 have hw1 : IntKind.i64.wrap (x * 256) = x * 256 := wrapI (by omega) (by omega)
 have hw2 : IntKind.i64.wrap (x * 256 + y) = x * 256 + y := wrapI (by omega) (by omega)
 simp [List.range, List.range.loop, ints, intss, int, bool, row, frac, fracs, ← List.map_take, ← List.map_drop, hw1, hw2]
 refine tyo_end (by simp) ?_
 simp only [thenY_normal]
 refine ty_awp (ctx_ok eqOk hG) mixed curJ_stable (live := [true, true, false, false, true, true]) fun X A w1 => ?_
 simp [List.range, List.range.loop, ints, intss, int, bool, row, frac, fracs, ← List.map_take, ← List.map_drop, thenY_ret, hmn]
 rfl
end Go.Proofs.YtompijgfpeibnaaGreatDoor.Ax
namespace Go.Proofs
open Go.Shelf
def Tryz.laysM171_ren : Go.Shelf.Ren := ⟨fun | 171 => 17 | 243 => 28 | 246 => 82 | 283 => 143 | 284 => 144 | 285 => 145 | 286 => 146 | 129 => 247 | 317 => 246 | 318 => 248 | 319 => 249 | 320 => 250 | 337 => 327 | 338 => 328 | n => n, fun | 3 => 3 | 9 => 9 | 2 => 2 | 4 => 4 | 171 => 148 | 0 => 0 | 53 => 149 | 37 => 22 | 5 => 5 | 173 => 152 | 212 => 214 | 51 => 215 | 20 => 20 | 213 => 216 | 46 => 64 | 232 => 277 | 233 => 278 | n => n, fun | 17 => 1 | 18 => 6 | 19 => 7 | n => n⟩
theorem Tryz.laysM171 : Go.Proofs.LaysM.n171 Tryz.prog Tryz.laysM171_ren := {
 mixed := by kernel_rfl
 f129 := Tryz.func247.trans (congrArg some (by kernel_rfl))
 f171 := Tryz.func17.trans (congrArg some (by kernel_rfl))
 f243 := Tryz.func28.trans (congrArg some (by kernel_rfl))
 f246 := Tryz.func82.trans (congrArg some (by kernel_rfl))
 f283 := Tryz.func143.trans (congrArg some (by kernel_rfl))
 f284 := Tryz.func144.trans (congrArg some (by kernel_rfl))
 f285 := Tryz.func145.trans (congrArg some (by kernel_rfl))
 f286 := Tryz.func146.trans (congrArg some (by kernel_rfl))
 f317 := Tryz.func246.trans (congrArg some (by kernel_rfl))
 f318 := Tryz.func248.trans (congrArg some (by kernel_rfl))
 f319 := Tryz.func249.trans (congrArg some (by kernel_rfl))
 f320 := Tryz.func250.trans (congrArg some (by kernel_rfl))
 f337 := Tryz.func327.trans (congrArg some (by kernel_rfl))
 f338 := Tryz.func328.trans (congrArg some (by kernel_rfl))
 t0 := Tryz.underlying0
 a0 := Tryz.isAgg0
 z0 := Tryz.sizeOf0
 v0 := Tryz.zeroValue0
 t2 := Tryz.underlying2
 a2 := Tryz.isAgg2
 z2 := Tryz.sizeOf2
 v2 := Tryz.zeroValue2
 t3 := Tryz.underlying3
 a3 := Tryz.isAgg3
 z3 := Tryz.sizeOf3
 v3 := Tryz.zeroValue3
 t4 := Tryz.underlying4
 a4 := Tryz.isAgg4
 z4 := Tryz.sizeOf4
 v4 := Tryz.zeroValue4
 t5 := Tryz.underlying5
 a5 := Tryz.isAgg5
 z5 := Tryz.sizeOf5
 v5 := Tryz.zeroValue5
 t9 := Tryz.underlying9
 a9 := Tryz.isAgg9
 z9 := Tryz.sizeOf9
 v9 := Tryz.zeroValue9
 t20 := Tryz.underlying20
 a20 := Tryz.isAgg20
 z20 := Tryz.sizeOf20
 v20 := Tryz.zeroValue20
 t37 := Tryz.underlying22
 a37 := Tryz.isAgg22
 z37 := Tryz.sizeOf22
 v37 := Tryz.zeroValue22
 t46 := Tryz.underlying64
 a46 := Tryz.isAgg64
 z46 := Tryz.sizeOf64
 v46 := Tryz.zeroValue64
 t51 := Tryz.underlying215
 a51 := Tryz.isAgg215
 z51 := Tryz.sizeOf215
 v51 := Tryz.zeroValue215
 t53 := Tryz.underlying149
 a53 := Tryz.isAgg149
 z53 := Tryz.sizeOf149
 v53 := Tryz.zeroValue149
 t171 := Tryz.underlying148
 a171 := Tryz.isAgg148
 z171 := Tryz.sizeOf148
 v171 := Tryz.zeroValue148
 t173 := Tryz.underlying152
 a173 := Tryz.isAgg152
 z173 := Tryz.sizeOf152
 v173 := Tryz.zeroValue152
 t212 := Tryz.underlying214
 a212 := Tryz.isAgg214
 z212 := Tryz.sizeOf214
 v212 := Tryz.zeroValue214
 t213 := Tryz.underlying216
 a213 := Tryz.isAgg216
 z213 := Tryz.sizeOf216
 t232 := Tryz.underlying277
 a232 := Tryz.isAgg277
 z232 := Tryz.sizeOf277
 v232 := Tryz.zeroValue277
 t233 := Tryz.underlying278
 a233 := Tryz.isAgg278
 z233 := Tryz.sizeOf278
 v233 := Tryz.zeroValue278
 g17 := by kernel_rfl
 g18 := by kernel_rfl
 g19 := by kernel_rfl
 i0 := by kernel_rfl
 i2 := by kernel_rfl
 i3 := by kernel_rfl
 i4 := by kernel_rfl
 i5 := by kernel_rfl
 i9 := by kernel_rfl
 i20 := by kernel_rfl
 i37 := by kernel_rfl
 i46 := by kernel_rfl
 i51 := by kernel_rfl
 i53 := by kernel_rfl
 i171 := by kernel_rfl
 i173 := by kernel_rfl
 i212 := by kernel_rfl
 i232 := by kernel_rfl
 i233 := by kernel_rfl
 m17 := by kernel_rfl
 m18 := by kernel_rfl
 m19 := by kernel_rfl }
end Go.Proofs
namespace Go.Proofs.YtompijgfpeibnaaGreatDoor.Ax
open Go Go.RowKit
set_option linter.unusedSimpArgs false
def inI (n : Int) : Prop := -9223372036854775808 ≤ n ∧ n ≤ 9223372036854775807
def itoaS (n : Int) : ByteArray := ⟨(Lib.itoa n).toArray⟩
theorem tab_of {F : Nat → Prop} {w : World} (h : Gl F w) : Lib.TabIs Tryz.prog w "internal/strconv.uint64pow10" .u64 Lib.pow10Tab := by
 cases hg : Tryz.prog.globalNamed "internal/strconv.uint64pow10" with
 | none => exact absurd (show (Tryz.prog.globalNamed "internal/strconv.uint64pow10").isSome = true by kernel_rfl) (by rw [hg]; simp)
 | some g =>
  obtain ⟨_, x, y, h2⟩ := h.1 g hg
  unfold Lib.TabIs World.var?
  rw [hg]
  simp [h2]
noncomputable def mItoa : List AV → Option AV := mk inI (fun (n : Int) => [int n]) (fun n => .v (.string (itoaS n)))
theorem mItoa_at (n : Int) (h : inI n) : mItoa [.v (.int .i64 n)] = some (.v (.string (itoaS n))) :=
 mk_eq (enc := fun (n : Int) => [int n]) (x := n) (by intro a b h; simp [int] at h; rw [h]) h
theorem itoa_ok : FnOk Tryz.prog 17 mItoa := by
 refine mk_ok fun n hn => ?_
 refine ⟨⟨_, Tryz.func17, by kernel_rfl, by kernel_rfl⟩, fun w F vals hF hv => ?_⟩
 simp only [RepL, Rep, int] at hv
 obtain ⟨a, r1, e1, ⟨rfl, _⟩, rfl⟩ := hv
 have hvals : vals = #[.int .i64 n] := by apply Array.ext'; rw [e1]
 subst hvals
 refine (Go.Proofs.Any.strconv_Itoa Tryz.laysM171 n hn.1 hn.2 w (tab_of hF.gl)).mono fun e w' h => ?_
 obtain ⟨rfl, k, os, rfl⟩ := h
 refine ⟨_, fun _ => False, rfl, ⟨rfl, rfl, rfl, by simp [Go.Sort.grow, World.drewN], fun b hb _ => ?_⟩, fun _ h => h.elim, ?_⟩
 ·simp [Go.Sort.grow, World.drewN, Array.getElem?_append, hb]
 ·simp only [Own]; exact ⟨rfl, rfl⟩
theorem implFormatInt_ok : FnOk Tryz.prog 7 mItoa := by
 refine mk_ok fun n hn => ?_
 have hG : FnsOk Tryz.prog [(17, mItoa)] := (.cons itoa_ok .nil)
 refine callOk_awp (ctx_ok eqOk hG) mixed (live := [true, false, true]) (dt := []) Tryz.func7 rfl (by kernel_rfl) (by kernel_rfl) fun w0 hlens => ?_
 clear hlens
 have hm := mItoa_at n hn
 simp (config := {contextual := true}) [Tryz.f7, List.range, List.range.loop, ints, intss, int, bool, row, frac, fracs, ← List.map_take, ← List.map_drop, hm]
 done
open Go Go.RowKit
set_option linter.unusedSimpArgs false
theorem dec_lt {u : Nat} (h : u < 10) : Lib.decDigits u = [UInt8.ofNat (48 + u)] := by rw [Lib.decDigits, dif_pos h]
theorem dec_ge {u : Nat} (h : 10 ≤ u) : Lib.decDigits u = Lib.decDigits (u / 10) ++ [UInt8.ofNat (48 + u % 10)] := by rw [Lib.decDigits, dif_neg (by omega)]
theorem sz1 (x : UInt8) : ({ data := #[x] } : ByteArray).size = 1 := rfl
open Go Go.RowKit
def bl (s : ByteArray) : List UInt8 := s.data.toList
theorem bl_mk (l : List UInt8) : bl ⟨l.toArray⟩ = l := by simp [bl]
theorem bl_inj {a b : ByteArray} (h : bl a = bl b) : a = b := by
 obtain ⟨⟨a⟩⟩ := a
 obtain ⟨⟨b⟩⟩ := b
 simp [bl] at h
 rw [h]
end Go.Proofs.YtompijgfpeibnaaGreatDoor.Ax
