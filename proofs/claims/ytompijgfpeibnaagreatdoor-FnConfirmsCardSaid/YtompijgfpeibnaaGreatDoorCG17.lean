/-
 A function with a contract of its own for runs with calls gone into: a builder looks whether it was copied. No condition.
-/
import Derived.Test.YtompijgfpeibnaaGreatDoorCG16
import Derived.Test.YtompijgfpeibnaaGreatDoorCG10
import Derived.Test.YtompijgfpeibnaaGreatDoorCB8
namespace Go.Proofs.YtompijgfpeibnaaGreatDoor.Ax
open Go Go.RowKit
def sBld : CF := fun f vs st => if f = 27 then (match vs with
 | [.ptr t [] _ 0] => (match st.toks[t]? with
  | some (.row T true [c0, c1]) => if T = 44 then (match c0 with
   | .v (.pointer none) => some (.tup [], { st with toks := st.toks.set t (.row T true [.ptr t [] 0 0, c1]) })
   | .ptr t' [] _ 0 => if t' = t then some (.tup [], st) else none
   | _ => none) else none
  | _ => none)
 | _ => none) else none
theorem sBld_ok : CFOk Tryz.prog sBld := by
 intro f vs st r st' h
 unfold sBld at h
 split at h
 rotate_left
 ·simp at h
 rename_i e; subst e
 split at h
 rotate_left
 ·simp at h
 rename_i t i
 split at h
 rotate_left
 ·simp at h
 rename_i T c0 c1 hk
 split at h
 rotate_left
 ·simp at h
 rename_i hT; subst hT
 have hbody : HasBody Tryz.prog 27 := ⟨_, Tryz.func27, by kernel_rfl, by kernel_rfl⟩
 have hv : ∀ {w : World} {E : XE} {vals : Array Value}, XRepL w E [.ptr t [] i 0] vals.toList → vals = #[.pointer (some ⟨E.blk t, 0, none⟩)] := fun {w E vals} hx => by
  simp only [XRepL, XRep, XPtr] at hx
  obtain ⟨y, ys, e1, ⟨_, rfl⟩, rfl⟩ := hx
  apply Array.ext'; simpa using e1
 split at h
 ·rename_i hc0
  simp only [Option.some.injEq, Prod.mk.injEq] at h
  obtain ⟨rfl, rfl⟩ := h
  refine ⟨hbody, fun B E a gv w vals hs hx => ?_⟩
  obtain rfl := hv hx
  obtain ⟨c, g1, g2, g3, g4, g5⟩ := hs.tok t _ hk
  have hsz : c.size = 2 := (g5 rfl).symm
  obtain ⟨v0, v1, rfl⟩ : ∃ v0 v1, c = #[v0, v1] := by
   rcases c with ⟨_ | ⟨v0, _ | ⟨v1, _ | ⟨_, _⟩⟩⟩⟩ <;> simp at hsz
   exact ⟨v0, v1, rfl⟩
  simp only [XRepL, List.length_cons, List.length_nil, Nat.zero_add, Nat.reduceAdd, List.take_succ_cons, List.take_zero] at g4
  obtain ⟨y0, ys0, e0, k0, y1, ys1, e1, k1, k2⟩ := g4
  simp at e0
  obtain ⟨rfl, rfl⟩ := e0
  subst k2
  simp at e1
  subst e1
  simp only [XRep] at k0
  obtain ⟨rfl, _⟩ := k0
  have h0 : w.cell? ⟨E.blk t, 0, none⟩ = some (.pointer none) := by simp [World.cell?, g1]
  refine (Go.Proofs.Any.Builder_copyCheck_fresh { Tryz.laysJoin with } Tryz.extraJoin.toX72 (E.blk t) w h0 (by simp [World.shape?, g1]; rfl) (by simp [World.frozen?, g1])).mono fun e w' he => ?_
  obtain ⟨rfl, rfl⟩ := he
  have hfr : Frm (fun b => b = E.blk t) w (w.setCell ⟨E.blk t, 0, none⟩ (.pointer (some ⟨E.blk t, 0, none⟩))) := ⟨rfl, rfl, rfl, by simp [World.setCell], fun b _ hb => Below.heap_setCell w _ _ b hb⟩
  have hF : Agree E.F w (w.setCell ⟨E.blk t, 0, none⟩ (.pointer (some ⟨E.blk t, 0, none⟩))) := fun b hb => Below.heap_setCell w _ _ b fun e => (hs.live t _ hk (by simp)).2.2 (by have e' : b = E.blk t := e; rw [← e']; exact hb)
  have hle : XLe w (w.setCell ⟨E.blk t, 0, none⟩ (.pointer (some ⟨E.blk t, 0, none⟩))) E E := ⟨fun _ h => h, hF, Nat.le_refl _, fun _ _ => ⟨rfl, rfl⟩⟩
  refine ⟨_, E, rfl, hs.upd hk (by simp) hfr ?_, ?_⟩
  ·refine ⟨#[.pointer (some ⟨E.blk t, 0, none⟩), v1], ?_, g2, by simp, ?_, fun _ => by simp⟩
   ·simp [World.setCell, Array.getElem?_modify, g1]
   ·simp only [XRepL, List.length_cons, List.length_nil, Nat.zero_add, Nat.reduceAdd, List.take_succ_cons, List.take_zero]
    refine ⟨_, _, rfl, ?_, _, _, rfl, XRep.mono hle _ _ k1, rfl⟩
    simp only [XRep, XPtr]
    exact ⟨by rw [hs.n]; exact (List.getElem?_eq_some_iff.1 hk).1, by trivial⟩
  ·simp only [XRep, XRepL]; exact ⟨#[], rfl, rfl⟩
 ·rename_i x2 t' x3
  split at h
  rotate_left
  ·simp at h
  rename_i ht; subst ht
  simp only [Option.some.injEq, Prod.mk.injEq] at h
  obtain ⟨rfl, rfl⟩ := h
  refine ⟨hbody, fun B E a gv w vals hs hx => ?_⟩
  obtain rfl := hv hx
  obtain ⟨c, g1, g2, g3, g4, g5⟩ := hs.tok _ _ hk
  have hsz : c.size = 2 := (g5 rfl).symm
  obtain ⟨v0, v1, rfl⟩ : ∃ v0 v1, c = #[v0, v1] := by
   rcases c with ⟨_ | ⟨v0, _ | ⟨v1, _ | ⟨_, _⟩⟩⟩⟩ <;> simp at hsz
   exact ⟨v0, v1, rfl⟩
  simp only [XRepL, List.length_cons, List.length_nil, Nat.zero_add, Nat.reduceAdd, List.take_succ_cons, List.take_zero] at g4
  obtain ⟨y0, ys0, e0, k0, y1, ys1, e1, k1, k2⟩ := g4
  simp at e0
  obtain ⟨rfl, rfl⟩ := e0
  subst k2
  simp at e1
  subst e1
  simp only [XRep, XPtr] at k0
  obtain ⟨_, rfl⟩ := k0
  have h0 : w.cell? ⟨E.blk t', 0, none⟩ = some (.pointer (some ⟨E.blk t', 0, none⟩)) := by simp [World.cell?, g1]
  refine (Go.Proofs.Any.Builder_copyCheck_used { Tryz.laysJoin with } Tryz.extraJoin.toX72 (E.blk t') w h0).mono fun e w' he => ?_
  obtain ⟨rfl, rfl⟩ := he
  exact ⟨_, E, rfl, hs, by simp only [XRep, XRepL]; exact ⟨#[], rfl, rfl⟩⟩
 ·simp at h
def lkB (f : FuncId) (args : List AV) : List Fact → Option AV
 | [] => none
 | x :: l => if x.f = f then (if eqL x.args.reverse args.reverse = true then some x.r else lkB f args l) else lkB f args l
theorem lkB_ok {P : Program} {f : FuncId} {args : List AV} {r : AV} : ∀ {l : List Fact}, (∀ x ∈ l, FrzOk P x.f x.args true x.r) → lkB f args l = some r → FrzOk P f args true r
 | [], _, h => by simp [lkB] at h
 | x :: l, hl, h => by
  unfold lkB at h
  split at h
  ·rename_i e
   split at h
   ·rename_i e2
    simp only [Option.some.injEq] at h; subst h
    have := hl x (by simp)
    rw [e, List.reverse_inj.1 (eqL_ok e2)] at this
    exact this
   ·exact lkB_ok (fun y hy => hl y (by simp [hy])) h
  ·exact lkB_ok (fun y hy => hl y (by simp [hy])) h
noncomputable def xaS (tabH : List Fact) (S : CF) : XA := ⟨⟨tyOf Tryz.prog, eqT, baseL, fun _ _ => none, fun _ _ => none, fun f args => (match lkB f args tabH with
 | some r => some (true, r)
 | none => none), true⟩, 5, S, fxOf, 100000⟩
theorem xaS_ok {tabH : List Fact} {S : CF} (h2 : ∀ x ∈ tabH, FrzOk Tryz.prog x.f x.args true x.r) : (xaS tabH S).C.Ok Tryz.prog := by
 refine ⟨fun _ _ h => by simp only [xaS] at h; exact tyOf_ok h, fun t n h => by simp only [xaS] at h; exact eqOk t n h, fun f args r hr => ?_, fun _ _ _ _ _ h => by simp [xaS] at h, fun _ _ _ _ h => by simp [xaS] at h, fun f args sh r hr => ?_⟩
 ·simp only [xaS] at hr
  exact baseL_ok _ _ _ hr
 ·simp only [xaS] at hr
  split at hr
  ·rename_i r' e
   simp only [Option.some.injEq, Prod.mk.injEq] at hr
   obtain ⟨rfl, rfl⟩ := hr
   exact lkB_ok h2 e
  ·simp at hr
theorem runS {tabH : List Fact} {S : CF} (h2 : ∀ x ∈ tabH, FrzOk Tryz.prog x.f x.args true x.r) (hS : CFOk Tryz.prog S) (n : Nat) {f : FuncId} {args : List AV} {r : AV} (e : xread (xcall Tryz.prog (xaS tabH S) n f args ⟨[], [], [], []⟩) = some r) : FrzOk Tryz.prog f args true r := by
 unfold xread at e
 split at e
 ·rename_i r0 st e0
  simp only [Option.some.injEq] at e; subst e
  exact frz_of_xcall2 (xaS_ok h2) mixed hS n 6 e0
 ·simp at e
open Go Go.RowKit
noncomputable def c_newc : Fact := ⟨10, [], p0⟩
theorem k_newc : FrzOk Tryz.prog c_newc.f c_newc.args true c_newc.r := runX (tab := []) (tabH := []) [88, 52, 37, 24, 33] fcN fhN noS_ok 60 (by kernel_rfl)
open Go Go.RowKit
noncomputable def c_clone : Fact := ⟨23, [p0], p0⟩
theorem k_clone : CallOk Tryz.prog c_clone.f c_clone.args c_clone.r := runF (tab := []) fcN 40 (by kernel_rfl)
open Go Go.RowKit
noncomputable def c_allr3 : Fact := ⟨107, [i 3], .sl false 1 [.sl false 1 [i 0, i 1, i 2], .sl false 1 [i 0, i 2, i 1], .sl false 1 [i 1, i 0, i 2], .sl false 1 [i 1, i 2, i 0], .sl false 1 [i 2, i 0, i 1], .sl false 1 [i 2, i 1, i 0]]⟩
theorem k_allr3 : CallOk Tryz.prog c_allr3.f c_allr3.args c_allr3.r := runF (tab := []) fcN 40 (by kernel_rfl)
open Go Go.RowKit
noncomputable def c_kem : Fact := ⟨114, [p0], .sl false 1 [i 0, i 1, i 2]⟩
theorem k_kem : CallOk Tryz.prog c_kem.f c_kem.args c_kem.r := runF (tab := [c_allr3]) (fcC k_allr3 fcN) 40 (by kernel_rfl)
open Go Go.RowKit
noncomputable def c_topc : Fact := ⟨113, [p0], .sl false 1 [i 0, i 1, i 2]⟩
theorem k_topc : CallOk Tryz.prog c_topc.f c_topc.args c_topc.r := runF (tab := []) fcN 40 (by kernel_rfl)
open Go Go.RowKit
noncomputable def c_pline : Fact := ⟨54, [p0], bsv O_line⟩
theorem k_pline : CallOk Tryz.prog c_pline.f c_pline.args c_pline.r := runF (tab := [c_kem, c_topc]) (fcC k_kem (fcC k_topc fcN)) 40 (by kernel_rfl)
open Go Go.RowKit
noncomputable def c_lline : Fact := ⟨11, [p0, bsv L_line], .tup [p0, bsv O_line]⟩
theorem k_lline : FrzOk Tryz.prog c_lline.f c_lline.args true c_lline.r := runX (tab := [c_clone, c_pline]) (tabH := []) [24, 18] (fcC k_clone (fcC k_pline fcN)) fhN noS_ok 60 (by kernel_rfl)
open Go Go.RowKit
noncomputable def c_margin : Fact := ⟨57, [p0], .sl false 1 [.sl false 1 [i 0, i 3, i (-1)], .sl false 1 [i (-3), i 0, i 3], .sl false 1 [i 1, i (-3), i 0]]⟩
theorem k_margin : CallOk Tryz.prog c_margin.f c_margin.args c_margin.r := runF (tab := []) fcN 40 (by kernel_rfl)
open Go Go.RowKit
noncomputable def c_ftabm : Fact := ⟨56, [.sl false 1 [.sl false 1 [i 0, i 3, i (-1)], .sl false 1 [i (-3), i 0, i 3], .sl false 1 [i 1, i (-3), i 0]]], bsv O_margins⟩
theorem k_ftabm : CallOk Tryz.prog c_ftabm.f c_ftabm.args c_ftabm.r := runF (tab := []) fcN 40 (by kernel_rfl)
open Go Go.RowKit
noncomputable def c_lmargins : Fact := ⟨11, [p0, bsv L_margins], .tup [p0, bsv O_margins]⟩
theorem k_lmargins : FrzOk Tryz.prog c_lmargins.f c_lmargins.args true c_lmargins.r := runX (tab := [c_clone, c_margin, c_ftabm]) (tabH := []) [24, 18] (fcC k_clone (fcC k_margin (fcC k_ftabm fcN))) fhN noS_ok 60 (by kernel_rfl)
open Go Go.RowKit
noncomputable def c_rule1 : Fact := ⟨60, [i 1, p0], bsv (bz 0x61)⟩
theorem k_rule1 : CallOk Tryz.prog c_rule1.f c_rule1.args c_rule1.r := runF (tab := []) fcN 40 (by kernel_rfl)
open Go Go.RowKit
noncomputable def c_lrule1 : Fact := ⟨11, [p0, bsv L_rule1], .tup [p0, bsv (bz 0x61)]⟩
theorem k_lrule1 : FrzOk Tryz.prog c_lrule1.f c_lrule1.args true c_lrule1.r := runX (tab := [c_clone, c_rule1]) (tabH := []) [24, 18] (fcC k_clone (fcC k_rule1 fcN)) fhN noS_ok 60 (by kernel_rfl)
open Go Go.RowKit
noncomputable def c_rule2 : Fact := ⟨60, [i 2, p0], bsv (bz 0x61)⟩
theorem k_rule2 : CallOk Tryz.prog c_rule2.f c_rule2.args c_rule2.r := runF (tab := []) fcN 40 (by kernel_rfl)
open Go Go.RowKit
noncomputable def c_lrule2 : Fact := ⟨11, [p0, bsv L_rule2], .tup [p0, bsv (bz 0x61)]⟩
theorem k_lrule2 : FrzOk Tryz.prog c_lrule2.f c_lrule2.args true c_lrule2.r := runX (tab := [c_clone, c_rule2]) (tabH := []) [24, 18] (fcC k_clone (fcC k_rule2 fcN)) fhN noS_ok 60 (by kernel_rfl)
open Go Go.RowKit
noncomputable def c_rule3 : Fact := ⟨60, [i 3, p0], bsv (bz 0x6261)⟩
theorem k_rule3 : CallOk Tryz.prog c_rule3.f c_rule3.args c_rule3.r := runF (tab := []) fcN 40 (by kernel_rfl)
open Go Go.RowKit
noncomputable def c_lrule3 : Fact := ⟨11, [p0, bsv L_rule3], .tup [p0, bsv (bz 0x6261)]⟩
theorem k_lrule3 : FrzOk Tryz.prog c_lrule3.f c_lrule3.args true c_lrule3.r := runX (tab := [c_clone, c_rule3]) (tabH := []) [24, 18] (fcC k_clone (fcC k_rule3 fcN)) fhN noS_ok 60 (by kernel_rfl)
open Go Go.RowKit
noncomputable def c_rule4 : Fact := ⟨60, [i 4, p0], bsv (bz 0x636261)⟩
theorem k_rule4 : CallOk Tryz.prog c_rule4.f c_rule4.args c_rule4.r := runF (tab := []) fcN 40 (by kernel_rfl)
open Go Go.RowKit
noncomputable def c_lrule4 : Fact := ⟨11, [p0, bsv L_rule4], .tup [p0, bsv (bz 0x636261)]⟩
theorem k_lrule4 : FrzOk Tryz.prog c_lrule4.f c_lrule4.args true c_lrule4.r := runX (tab := [c_clone, c_rule4]) (tabH := []) [24, 18] (fcC k_clone (fcC k_rule4 fcN)) fhN noS_ok 60 (by kernel_rfl)
open Go Go.RowKit
noncomputable def c_rule13 : Fact := ⟨60, [i 13, p0], bsv (bz 0x61)⟩
theorem k_rule13 : CallOk Tryz.prog c_rule13.f c_rule13.args c_rule13.r := runF (tab := [c_kem]) (fcC k_kem fcN) 40 (by kernel_rfl)
open Go Go.RowKit
noncomputable def c_lrule13 : Fact := ⟨11, [p0, bsv L_rule13], .tup [p0, bsv (bz 0x61)]⟩
theorem k_lrule13 : FrzOk Tryz.prog c_lrule13.f c_lrule13.args true c_lrule13.r := runX (tab := [c_clone, c_rule13]) (tabH := []) [24, 18] (fcC k_clone (fcC k_rule13 fcN)) fhN noS_ok 60 (by kernel_rfl)
open Go Go.RowKit
noncomputable def c_spoil : Fact := ⟨64, [i 1, p0], i 1⟩
theorem k_spoil : CallOk Tryz.prog c_spoil.f c_spoil.args c_spoil.r := runF (tab := []) fcN 40 (by kernel_rfl)
open Go Go.RowKit
noncomputable def c_lspoiler : Fact := ⟨11, [p0, bsv L_spoiler], .tup [p0, bsv (bz 0x31)]⟩
theorem k_lspoiler : FrzOk Tryz.prog c_lspoiler.f c_lspoiler.args true c_lspoiler.r := runX (tab := [c_clone, c_spoil]) (tabH := []) [24, 18] (fcC k_clone (fcC k_spoil fcN)) fhN noS_ok 60 (by kernel_rfl)
open Go Go.RowKit
noncomputable def c_axis : Fact := ⟨116, [p0], .tup [.sl true 1 [], bo false]⟩
theorem k_axis : CallOk Tryz.prog c_axis.f c_axis.args c_axis.r := runF (tab := []) fcN 40 (by kernel_rfl)
open Go Go.RowKit
noncomputable def c_laxis : Fact := ⟨11, [p0, bsv L_axis], .tup [p0, bsv (bz 0x656e6f6e)]⟩
theorem k_laxis : FrzOk Tryz.prog c_laxis.f c_laxis.args true c_laxis.r := runX (tab := [c_clone, c_axis]) (tabH := []) [24, 18] (fcC k_clone (fcC k_axis fcN)) fhN noS_ok 60 (by kernel_rfl)
open Go Go.RowKit
noncomputable def c_ham10 : Fact := ⟨293, [.sl false 1 [i 6, i 6, i 2], i 10], .sl false 1 [i 4, i 4, i 2]⟩
theorem k_ham10 : CallOk Tryz.prog c_ham10.f c_ham10.args c_ham10.r := runF (tab := []) fcN 40 (by kernel_rfl)
open Go Go.RowKit
noncomputable def c_seat0 : Fact := ⟨121, [i 0, .sl false 1 [i 6, i 6, i 2], i 10], bsv O_seats0⟩
theorem k_seat0 : CallOk Tryz.prog c_seat0.f c_seat0.args c_seat0.r := runF (tab := [c_ham10]) (fcC k_ham10 fcN) 40 (by kernel_rfl)
open Go Go.RowKit
noncomputable def c_pn662 : Fact := ⟨208, [bsv (bz 0x322c362c36)], .tup [.sl false 1 [i 6, i 6, i 2], bo true]⟩
theorem k_pn662 : FrzOk Tryz.prog c_pn662.f c_pn662.args true c_pn662.r := runX (tab := []) (tabH := []) [56, 96] fcN fhN noS_ok 60 (by kernel_rfl)
open Go Go.RowKit
noncomputable def c_lseats0 : Fact := ⟨11, [p0, bsv L_seats0], .tup [p0, bsv O_seats0]⟩
theorem k_lseats0 : FrzOk Tryz.prog c_lseats0.f c_lseats0.args true c_lseats0.r := runX (tab := [c_clone, c_seat0]) (tabH := [c_pn662]) [24, 18] (fcC k_clone (fcC k_seat0 fcN)) (fhC k_pn662 fhN) noS_ok 60 (by kernel_rfl)
open Go Go.RowKit
noncomputable def c_ham0 : Fact := ⟨293, [.sl false 1 [i 6, i 6, i 2], i 0], .sl false 1 [i 0, i 0, i 0]⟩
theorem k_ham0 : CallOk Tryz.prog c_ham0.f c_ham0.args c_ham0.r := runF (tab := []) fcN 40 (by kernel_rfl)
open Go Go.RowKit
noncomputable def c_ham1 : Fact := ⟨293, [.sl false 1 [i 6, i 6, i 2], i 1], .sl false 1 [i 1, i 0, i 0]⟩
theorem k_ham1 : CallOk Tryz.prog c_ham1.f c_ham1.args c_ham1.r := runF (tab := []) fcN 40 (by kernel_rfl)
open Go Go.RowKit
noncomputable def c_ham2 : Fact := ⟨293, [.sl false 1 [i 6, i 6, i 2], i 2], .sl false 1 [i 1, i 1, i 0]⟩
theorem k_ham2 : CallOk Tryz.prog c_ham2.f c_ham2.args c_ham2.r := runF (tab := []) fcN 40 (by kernel_rfl)
open Go Go.RowKit
noncomputable def c_ham3 : Fact := ⟨293, [.sl false 1 [i 6, i 6, i 2], i 3], .sl false 1 [i 1, i 1, i 1]⟩
theorem k_ham3 : CallOk Tryz.prog c_ham3.f c_ham3.args c_ham3.r := runF (tab := []) fcN 40 (by kernel_rfl)
open Go Go.RowKit
noncomputable def c_ham4 : Fact := ⟨293, [.sl false 1 [i 6, i 6, i 2], i 4], .sl false 1 [i 2, i 2, i 0]⟩
theorem k_ham4 : CallOk Tryz.prog c_ham4.f c_ham4.args c_ham4.r := runF (tab := []) fcN 40 (by kernel_rfl)
open Go Go.RowKit
noncomputable def c_loss : Fact := ⟨122, [i 0, .sl false 1 [i 6, i 6, i 2], i 20], i 3⟩
theorem k_loss : CallOk Tryz.prog c_loss.f c_loss.args c_loss.r := runF (tab := [c_ham0, c_ham1, c_ham2, c_ham3, c_ham4]) (fcC k_ham0 (fcC k_ham1 (fcC k_ham2 (fcC k_ham3 (fcC k_ham4 fcN))))) 40 (by kernel_rfl)
open Go Go.RowKit
noncomputable def c_lloss : Fact := ⟨11, [p0, bsv L_loss], .tup [p0, bsv (bz 0x33)]⟩
theorem k_lloss : FrzOk Tryz.prog c_lloss.f c_lloss.args true c_lloss.r := runX (tab := [c_clone, c_loss]) (tabH := [c_pn662]) [24, 18] (fcC k_clone (fcC k_loss fcN)) (fhC k_pn662 fhN) noS_ok 60 (by kernel_rfl)
open Go Go.RowKit
noncomputable def c_seat4 : Fact := ⟨121, [i 4, .sl false 1 [i 10, i 7, i 3], i 6], bsv O_seats4⟩
theorem k_seat4 : CallOk Tryz.prog c_seat4.f c_seat4.args c_seat4.r := runF (tab := []) fcN 40 (by kernel_rfl)
open Go Go.RowKit
noncomputable def c_pn1073 : Fact := ⟨208, [bsv (bz 0x332c372c3031)], .tup [.sl false 1 [i 10, i 7, i 3], bo true]⟩
theorem k_pn1073 : FrzOk Tryz.prog c_pn1073.f c_pn1073.args true c_pn1073.r := runX (tab := []) (tabH := []) [56, 96] fcN fhN noS_ok 60 (by kernel_rfl)
open Go Go.RowKit
noncomputable def c_lseats4 : Fact := ⟨11, [p0, bsv L_seats4], .tup [p0, bsv O_seats4]⟩
theorem k_lseats4 : FrzOk Tryz.prog c_lseats4.f c_lseats4.args true c_lseats4.r := runX (tab := [c_clone, c_seat4]) (tabH := [c_pn1073]) [24, 18] (fcC k_clone (fcC k_seat4 fcN)) (fhC k_pn1073 fhN) noS_ok 60 (by kernel_rfl)
open Go Go.RowKit
noncomputable def c_ftabr : Fact := ⟨56, [.sl false 1 [.sl false 1 [i 10, i 30], .sl false 1 [i 10, i 0]]], bsv O_round⟩
theorem k_ftabr : CallOk Tryz.prog c_ftabr.f c_ftabr.args c_ftabr.r := runF (tab := []) fcN 40 (by kernel_rfl)
open Go Go.RowKit
noncomputable def c_ptround : Fact := ⟨127, [bsv (bz 0x352c353b35322c3531)], .tup [.sl false 1 [.sl false 1 [i 15, i 25], .sl false 1 [i 5, i 5]], bo true]⟩
theorem k_ptround : FrzOk Tryz.prog c_ptround.f c_ptround.args true c_ptround.r := runX (tab := []) (tabH := []) [56, 96] fcN fhN noS_ok 60 (by kernel_rfl)
open Go Go.RowKit
noncomputable def c_round : Fact := ⟨123, [.sl false 1 [.sl false 1 [i 15, i 25], .sl false 1 [i 5, i 5]]], .tup [.sl false 1 [.sl false 1 [i 10, i 30], .sl false 1 [i 10, i 0]], bo true]⟩
theorem k_round : FrzOk Tryz.prog c_round.f c_round.args true c_round.r := runX (tab := []) (tabH := []) [299, 244, 301, 302] fcN fhN noS_ok 60 (by kernel_rfl)
open Go Go.RowKit
noncomputable def c_lround : Fact := ⟨11, [p0, bsv L_round], .tup [p0, bsv O_round]⟩
theorem k_lround : FrzOk Tryz.prog c_lround.f c_lround.args true c_lround.r := runX (tab := [c_clone, c_ftabr]) (tabH := [c_ptround, c_round]) [24, 18] (fcC k_clone (fcC k_ftabr fcN)) (fhC k_ptround (fhC k_round fhN)) noS_ok 60 (by kernel_rfl)
open Go Go.RowKit
noncomputable def c_pmark : Fact := ⟨40, [bsv (bz 0x6261206162207c206162206261)], .tup [.agg [.sl false 1 [.sl false 1 [i 0, i 1], .sl false 1 [i 1, i 0]], .sl false 1 [.sl false 1 [i 1, i 0], .sl false 1 [i 0, i 1]]], bo true]⟩
theorem k_pmark : CallOk Tryz.prog c_pmark.f c_pmark.args c_pmark.r := runF (tab := []) fcN 40 (by kernel_rfl)
open Go Go.RowKit
noncomputable def c_pmen : Fact := ⟨94, [.agg [.sl false 1 [.sl false 1 [i 0, i 1], .sl false 1 [i 1, i 0]], .sl false 1 [.sl false 1 [i 1, i 0], .sl false 1 [i 0, i 1]]]], .tup [.sl false 1 [i 0, i 1], i 2]⟩
theorem k_pmen : CallOk Tryz.prog c_pmen.f c_pmen.args c_pmen.r := runF (tab := []) fcN 40 (by kernel_rfl)
open Go Go.RowKit
noncomputable def c_pwomen : Fact := ⟨95, [.agg [.sl false 1 [.sl false 1 [i 0, i 1], .sl false 1 [i 1, i 0]], .sl false 1 [.sl false 1 [i 1, i 0], .sl false 1 [i 0, i 1]]]], .tup [.sl false 1 [i 1, i 0], i 2]⟩
theorem k_pwomen : CallOk Tryz.prog c_pwomen.f c_pwomen.args c_pwomen.r := runF (tab := []) fcN 40 (by kernel_rfl)
open Go Go.RowKit
noncomputable def c_allr2 : Fact := ⟨107, [i 2], .sl false 1 [.sl false 1 [i 0, i 1], .sl false 1 [i 1, i 0]]⟩
theorem k_allr2 : CallOk Tryz.prog c_allr2.f c_allr2.args c_allr2.r := runF (tab := []) fcN 40 (by kernel_rfl)
open Go Go.RowKit
noncomputable def c_stab : Fact := ⟨97, [.agg [.sl false 1 [.sl false 1 [i 0, i 1], .sl false 1 [i 1, i 0]], .sl false 1 [.sl false 1 [i 1, i 0], .sl false 1 [i 0, i 1]]]], .sl false 1 [.sl false 1 [i 0, i 1], .sl false 1 [i 1, i 0]]⟩
theorem k_stab : FrzOk Tryz.prog c_stab.f c_stab.args true c_stab.r := runX (tab := [c_allr2]) (tabH := []) [92, 170] (fcC k_allr2 fcN) fhN noS_ok 60 (by kernel_rfl)
open Go Go.RowKit
noncomputable def c_marry : Fact := ⟨41, [.agg [.sl false 1 [.sl false 1 [i 0, i 1], .sl false 1 [i 1, i 0]], .sl false 1 [.sl false 1 [i 1, i 0], .sl false 1 [i 0, i 1]]]], bsv O_marry⟩
theorem k_marry : FrzOk Tryz.prog c_marry.f c_marry.args true c_marry.r := runX (tab := [c_pmen, c_pwomen]) (tabH := [c_stab]) [92, 96] (fcC k_pmen (fcC k_pwomen fcN)) (fhC k_stab fhN) noS_ok 60 (by kernel_rfl)
open Go Go.RowKit
noncomputable def c_lmarry : Fact := ⟨11, [p0, bsv L_marry], .tup [p0, bsv O_marry]⟩
theorem k_lmarry : FrzOk Tryz.prog c_lmarry.f c_lmarry.args true c_lmarry.r := runX (tab := [c_clone, c_pmark]) (tabH := [c_marry]) [24, 18] (fcC k_clone (fcC k_pmark fcN)) (fhC k_marry fhN) noS_ok 60 (by kernel_rfl)
open Go Go.RowKit
noncomputable def c_house : Fact := ⟨69, [.sl false 1 [.sl false 1 [i 1, i 0], .sl false 1 [i 0, i 1]]], bsv O_houses⟩
theorem k_house : CallOk Tryz.prog c_house.f c_house.args c_house.r := runF (tab := []) fcN 40 (by kernel_rfl)
open Go Go.RowKit
noncomputable def c_pthouse : Fact := ⟨127, [bsv (bz 0x312c303b302c31)], .tup [.sl false 1 [.sl false 1 [i 1, i 0], .sl false 1 [i 0, i 1]], bo true]⟩
theorem k_pthouse : FrzOk Tryz.prog c_pthouse.f c_pthouse.args true c_pthouse.r := runX (tab := []) (tabH := []) [56, 96] fcN fhN noS_ok 60 (by kernel_rfl)
open Go Go.RowKit
noncomputable def c_lhouses : Fact := ⟨11, [p0, bsv L_houses], .tup [p0, bsv O_houses]⟩
theorem k_lhouses : FrzOk Tryz.prog c_lhouses.f c_lhouses.args true c_lhouses.r := runX (tab := [c_clone, c_house]) (tabH := [c_pthouse]) [24, 18] (fcC k_clone (fcC k_house fcN)) (fhC k_pthouse fhN) noS_ok 60 (by kernel_rfl)
open Go Go.RowKit
def blocks (L : List (List Int)) (x : Int) : Nat → List (List Int)
 | 0 => []
 | m + 1 => L.map (x :: ·) ++ blocks L (x + 1) m
def allL (low high : Int) : Nat → List (List Int)
 | 0 => [[]]
 | n + 1 => blocks (allL low high n) low (high + 1 - low).toNat
def next (low high : Int) : List Int → Option (List Int)
 | [] => none
 | x :: l => match next low high l with
  | some l' => some (x :: l')
  | none => if x < high then some ((x + 1) :: List.replicate l.length low) else none
theorem next_last {low high : Int} : ∀ n, next low high (List.replicate n high) = none
 | 0 => rfl
 | n + 1 => by rw [List.replicate_succ, next, next_last n]; simp
theorem next_step {low high x : Int} (hx : x < high) {m : Nat} : ∀ (p : List Int), next low high (p ++ x :: List.replicate m high) = some (p ++ (x + 1) :: List.replicate m low)
 | [] => by simp [next, next_last, hx]
 | y :: p => by simp only [List.cons_append, next, next_step hx p]
def Ch (low high : Int) (L : List (List Int)) : Prop := ∀ (k : Nat) (l : List Int), L[k]? = some l → L[k + 1]? = next low high l
theorem blocks_ch {low high : Int} {L : List (List Int)} {n : Nat} (hL : Ch low high L) (h0 : L[0]? = some (List.replicate n low)) (hlen : ∀ l ∈ L, l.length = n) :
  ∀ (m : Nat) (x : Int), x + (m : Int) = high + 1 → Ch low high (blocks L x m)
 | 0, x, _ => by intro k l h; simp [blocks] at h
 | m + 1, x, hx => by
  intro k l h
  have ih := blocks_ch hL h0 hlen m (x + 1) (by omega)
  simp only [blocks] at h ⊢
  have hll : (L.map (x :: ·)).length = L.length := by simp
  by_cases hk : k < L.length
  ·rw [List.getElem?_append_left (by rw [hll]; exact hk)] at h
   rw [List.getElem?_map, Option.map_eq_some_iff] at h
   obtain ⟨l0, hl0, rfl⟩ := h
   have hn := hL k l0 hl0
   by_cases hk1 : k + 1 < L.length
   ·rw [List.getElem?_append_left (by rw [hll]; exact hk1), List.getElem?_map]
    rw [List.getElem?_eq_getElem hk1] at hn ⊢
    simp only [next, ← hn, Option.map_some]
   ·have hnone : next low high l0 = none := by rw [← hn]; exact List.getElem?_eq_none (by omega)
    have hl0n := hlen l0 (List.mem_of_getElem? hl0)
    rw [List.getElem?_append_right (by rw [hll]; omega), hll, show k + 1 - L.length = 0 by omega]
    simp only [next, hnone]
    cases m with
    | zero =>
     rw [if_neg (by omega)]
     simp [blocks]
    | succ m =>
     rw [if_pos (by omega), hl0n]
     simp only [blocks]
     rw [List.getElem?_append_left (by simp; have := (List.getElem?_eq_some_iff.1 h0).1; omega), List.getElem?_map, h0]
     rfl
  ·rw [List.getElem?_append_right (by rw [hll]; omega), hll] at h
   rw [List.getElem?_append_right (by rw [hll]; omega), hll, show k + 1 - L.length = k - L.length + 1 by omega]
   exact ih _ l h
theorem blocks_mem {L : List (List Int)} {l : List Int} : ∀ {m : Nat} {x : Int}, l ∈ blocks L x m → ∃ y l0, l = y :: l0 ∧ l0 ∈ L ∧ x ≤ y ∧ y < x + m
 | 0, x, h => by simp [blocks] at h
 | m + 1, x, h => by
  simp only [blocks, List.mem_append, List.mem_map] at h
  rcases h with ⟨l0, h1, rfl⟩ | h
  ·exact ⟨x, l0, rfl, h1, Int.le_refl _, by omega⟩
  ·obtain ⟨y, l0, h1, h2, h3, h4⟩ := blocks_mem h
   exact ⟨y, l0, h1, h2, by omega, by omega⟩
theorem allL_mem {low high : Int} : ∀ {n : Nat} {l : List Int}, l ∈ allL low high n → l.length = n ∧ ∀ x ∈ l, low ≤ x ∧ x ≤ high
 | 0, l, h => by simp [allL] at h; subst h; simp
 | n + 1, l, h => by
  simp only [allL] at h
  obtain ⟨y, l0, rfl, h2, h3, h4⟩ := blocks_mem h
  obtain ⟨g1, g2⟩ := allL_mem h2
  refine ⟨by simp [g1], fun z hz => ?_⟩
  rcases List.mem_cons.1 hz with rfl | hz
  ·omega
  ·exact g2 z hz
theorem allL_head {low high : Int} (h : low ≤ high) : ∀ n, (allL low high n)[0]? = some (List.replicate n low)
 | 0 => rfl
 | n + 1 => by
  obtain ⟨m, hm⟩ : ∃ m, (high + 1 - low).toNat = m + 1 := ⟨(high - low).toNat, by omega⟩
  have ih := allL_head h n
  simp only [allL, hm, blocks]
  rw [List.getElem?_append_left (by simp; exact (List.getElem?_eq_some_iff.1 ih).1), List.getElem?_map, ih]
  rfl
theorem allL_ch {low high : Int} (h : low ≤ high) : ∀ n, Ch low high (allL low high n)
 | 0 => by
  intro k l hk
  cases k with
  | zero => simp [allL] at hk ⊢; subst hk; rfl
  | succ k => simp [allL] at hk
 | n + 1 => by
  simp only [allL]
  exact blocks_ch (allL_ch h n) (allL_head h n) (fun l hl => (allL_mem hl).1) _ _ (by omega)
theorem next_at {low high : Int} {l : List Int} {j : Nat} (hj : j < l.length) (hx : l[j] < high) (hd : l.drop (j + 1) = List.replicate (l.length - (j + 1)) high) : next low high l = some (l.take j ++ (l[j] + 1) :: List.replicate (l.length - (j + 1)) low) := by
 have : l = l.take j ++ l[j] :: List.replicate (l.length - (j + 1)) high := by
  rw [← hd]
  conv => lhs; rw [← List.take_append_drop j l, List.drop_eq_getElem_cons hj]
 conv => lhs; rw [this]
 exact next_step hx _
end Go.Proofs.YtompijgfpeibnaaGreatDoor.Ax
