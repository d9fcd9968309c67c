/-
 A known call: impl.FormatNumbers. Written by a program; no condition.
-/
import Derived.Test.YtompijgfpeibnaaGreatDoorCG16
import Derived.Test.YtompijgfpeibnaaGreatDoorCG17
import Derived.Test.YtompijgfpeibnaaGreatDoorCG20
import Derived.Test.YtompijgfpeibnaaGreatDoorCG12
namespace Go.Proofs.YtompijgfpeibnaaGreatDoor.Ax
open Go Go.RowKit
noncomputable def c_fknife : Fact := ⟨96, [.sl false 1 [i 1, i 0, i 0]], bsv O_cake⟩
theorem k_fknife : CallOk Tryz.prog c_fknife.f c_fknife.args c_fknife.r := runF (tab := []) fcN 40 (by kernel_rfl)
open Go Go.RowKit
noncomputable def c_ptcake : Fact := ⟨127, [bsv (bz 0x312c322c333b332c322c31)], .tup [.sl false 1 [.sl false 1 [i 1, i 2, i 3], .sl false 1 [i 3, i 2, i 1]], bo true]⟩
theorem k_ptcake : FrzOk Tryz.prog c_ptcake.f c_ptcake.args true c_ptcake.r := runX (tab := []) (tabH := []) [56, 96] fcN fhN noS_ok 60 (by kernel_rfl)
open Go Go.RowKit
noncomputable def c_lcake : Fact := ⟨11, [p0, bsv L_cake], .tup [p0, bsv O_cake]⟩
theorem k_lcake : FrzOk Tryz.prog c_lcake.f c_lcake.args true c_lcake.r := runX (tab := [c_clone, c_knife, c_fknife]) (tabH := [c_ptcake]) [24, 18] (fcC k_clone (fcC k_knife (fcC k_fknife fcN))) (fhC k_ptcake fhN) noS_ok 60 (by kernel_rfl)
open Go Go.RowKit
noncomputable def c_pr : Fact := ⟨37, [bsv (bz 0x616263)], .tup [.sl false 1 [i 2, i 1, i 0], bo true]⟩
theorem k_pr : CallOk Tryz.prog c_pr.f c_pr.args c_pr.r := runF (tab := []) fcN 40 (by kernel_rfl)
open Go Go.RowKit
noncomputable def c_addv : Fact := ⟨99, [p0, .agg [.sl false 1 [i 2, i 1, i 0], i 2]], .tup [p1, bo true]⟩
theorem k_addv : CallOk Tryz.prog c_addv.f c_addv.args c_addv.r := runF (tab := []) fcN 40 (by kernel_rfl)
open Go Go.RowKit
noncomputable def c_fprof : Fact := ⟨52, [p1], bsv O_vote⟩
theorem k_fprof : CallOk Tryz.prog c_fprof.f c_fprof.args c_fprof.r := runF (tab := []) fcN 40 (by kernel_rfl)
open Go Go.RowKit
noncomputable def c_lvote : Fact := ⟨11, [p0, bsv L_vote], .tup [p1, bsv O_vote]⟩
theorem k_lvote : FrzOk Tryz.prog c_lvote.f c_lvote.args true c_lvote.r := runX (tab := [c_clone, c_pr, c_addv, c_fprof]) (tabH := []) [24, 18] (fcC k_clone (fcC k_pr (fcC k_addv (fcC k_fprof fcN)))) fhN noS_ok 60 (by kernel_rfl)
open Go Go.RowKit
noncomputable def c_clone1 : Fact := ⟨23, [p1], p1⟩
theorem k_clone1 : CallOk Tryz.prog c_clone1.f c_clone1.args c_clone1.r := runF (tab := []) fcN 40 (by kernel_rfl)
open Go Go.RowKit
noncomputable def c_lwhat1 : Fact := ⟨11, [p1, bsv L_what], .tup [p1, bsv O_what]⟩
theorem k_lwhat1 : FrzOk Tryz.prog c_lwhat1.f c_lwhat1.args true c_lwhat1.r := runX (tab := [c_clone1]) (tabH := []) [24, 18] (fcC k_clone1 fcN) fhN noS_ok 60 (by kernel_rfl)
open Go Go.RowKit
noncomputable def tabRun : List Fact := [c_newc, c_lline, c_lmargins, c_lrule1, c_lrule2, c_lrule3, c_lrule4, c_lrule13, c_lspoiler, c_laxis, c_lseats0, c_lloss, c_lseats4, c_lround, c_lmarry, c_lhouses, c_lgoods, c_lauction, c_lrent, c_llottery, c_lheirs, c_lcake, c_lvote, c_lwhat1]
theorem tabRun_ok : ∀ x ∈ tabRun, FrzOk Tryz.prog x.f x.args true x.r := (fhC k_newc (fhC k_lline (fhC k_lmargins (fhC k_lrule1 (fhC k_lrule2 (fhC k_lrule3 (fhC k_lrule4 (fhC k_lrule13 (fhC k_lspoiler (fhC k_laxis (fhC k_lseats0 (fhC k_lloss (fhC k_lseats4 (fhC k_lround (fhC k_lmarry (fhC k_lhouses (fhC k_lgoods (fhC k_lauction (fhC k_lrent (fhC k_llottery (fhC k_lheirs (fhC k_lcake (fhC k_lvote (fhC k_lwhat1 fhN))))))))))))))))))))))))
open Go Go.RowKit
noncomputable def c_t1 : Fact := ⟨18, [bsv (jn [L_line, L_margins, L_rule1, L_spoiler, L_axis, L_seats0, L_loss, L_seats4, L_round, L_marry, L_houses, L_goods, L_auction, L_rent, L_lottery, L_heirs, L_cake, L_vote, L_what]), bsv (bz 0xa)], .sl false 1 [bsv L_line, bsv L_margins, bsv L_rule1, bsv L_spoiler, bsv L_axis, bsv L_seats0, bsv L_loss, bsv L_seats4, bsv L_round, bsv L_marry, bsv L_houses, bsv L_goods, bsv L_auction, bsv L_rent, bsv L_lottery, bsv L_heirs, bsv L_cake, bsv L_vote, bsv L_what]⟩
theorem k_t1 : CallOk Tryz.prog c_t1.f c_t1.args c_t1.r := by
 have h := splitP_ok _ _ (mSpl2_at ⟨⟨(jn [L_line, L_margins, L_rule1, L_spoiler, L_axis, L_seats0, L_loss, L_seats4, L_round, L_marry, L_houses, L_goods, L_auction, L_rent, L_lottery, L_heirs, L_cake, L_vote, L_what])⟩⟩ 10 (by exact ⟨of_decide_eq_true (by kernel_rfl), of_decide_eq_true (by kernel_rfl)⟩))
 rw [show (AV.sl false 1 ((splitS ⟨⟨(jn [L_line, L_margins, L_rule1, L_spoiler, L_axis, L_seats0, L_loss, L_seats4, L_round, L_marry, L_houses, L_goods, L_auction, L_rent, L_lottery, L_heirs, L_cake, L_vote, L_what])⟩⟩ 10).map str)) = c_t1.r from by kernel_rfl] at h
 exact h
open Go Go.RowKit
noncomputable def c_q1 : Fact := ⟨8, [bsv (jn [L_line, L_margins, L_rule1, L_spoiler, L_axis, L_seats0, L_loss, L_seats4, L_round, L_marry, L_houses, L_goods, L_auction, L_rent, L_lottery, L_heirs, L_cake, L_vote, L_what])], .sl false 1 [bsv L_line, bsv L_margins, bsv L_rule1, bsv L_spoiler, bsv L_axis, bsv L_seats0, bsv L_loss, bsv L_seats4, bsv L_round, bsv L_marry, bsv L_houses, bsv L_goods, bsv L_auction, bsv L_rent, bsv L_lottery, bsv L_heirs, bsv L_cake, bsv L_vote, bsv L_what]⟩
theorem k_q1 : FrzOk Tryz.prog c_q1.f c_q1.args true c_q1.r := runX (tab := [c_t1]) (tabH := []) [] (fcC k_t1 fcN) fhN noS_ok 60 (by kernel_rfl)
open Go Go.RowKit
noncomputable def c_s1 : Fact := ⟨6, [bsv (jn [L_line, L_margins, L_rule1, L_spoiler, L_axis, L_seats0, L_loss, L_seats4, L_round, L_marry, L_houses, L_goods, L_auction, L_rent, L_lottery, L_heirs, L_cake, L_vote, L_what])], .tup [bsv (jl [O_line, O_margins, (bz 0x61), (bz 0x31), (bz 0x656e6f6e), O_seats0, (bz 0x33), O_seats4, O_round, O_marry, O_houses, O_goods, O_auction, O_rent, O_lottery, O_heirs, O_cake, O_vote, O_what]), i 19]⟩
theorem k_s1 : FrzOk Tryz.prog c_s1.f c_s1.args true c_s1.r := runS (tabH := c_q1 :: tabRun) (fhC k_q1 tabRun_ok) sBld_ok 60 (by kernel_rfl)
open Go Go.RowKit
noncomputable def c_t2 : Fact := ⟨18, [bsv (jn [L_line, L_margins, L_rule2, L_spoiler, L_axis, L_seats0, L_loss, L_seats4, L_round, L_marry, L_houses, L_goods, L_auction, L_rent, L_lottery, L_heirs, L_cake, L_vote, L_what]), bsv (bz 0xa)], .sl false 1 [bsv L_line, bsv L_margins, bsv L_rule2, bsv L_spoiler, bsv L_axis, bsv L_seats0, bsv L_loss, bsv L_seats4, bsv L_round, bsv L_marry, bsv L_houses, bsv L_goods, bsv L_auction, bsv L_rent, bsv L_lottery, bsv L_heirs, bsv L_cake, bsv L_vote, bsv L_what]⟩
theorem k_t2 : CallOk Tryz.prog c_t2.f c_t2.args c_t2.r := by
 have h := splitP_ok _ _ (mSpl2_at ⟨⟨(jn [L_line, L_margins, L_rule2, L_spoiler, L_axis, L_seats0, L_loss, L_seats4, L_round, L_marry, L_houses, L_goods, L_auction, L_rent, L_lottery, L_heirs, L_cake, L_vote, L_what])⟩⟩ 10 (by exact ⟨of_decide_eq_true (by kernel_rfl), of_decide_eq_true (by kernel_rfl)⟩))
 rw [show (AV.sl false 1 ((splitS ⟨⟨(jn [L_line, L_margins, L_rule2, L_spoiler, L_axis, L_seats0, L_loss, L_seats4, L_round, L_marry, L_houses, L_goods, L_auction, L_rent, L_lottery, L_heirs, L_cake, L_vote, L_what])⟩⟩ 10).map str)) = c_t2.r from by kernel_rfl] at h
 exact h
open Go Go.RowKit
noncomputable def c_q2 : Fact := ⟨8, [bsv (jn [L_line, L_margins, L_rule2, L_spoiler, L_axis, L_seats0, L_loss, L_seats4, L_round, L_marry, L_houses, L_goods, L_auction, L_rent, L_lottery, L_heirs, L_cake, L_vote, L_what])], .sl false 1 [bsv L_line, bsv L_margins, bsv L_rule2, bsv L_spoiler, bsv L_axis, bsv L_seats0, bsv L_loss, bsv L_seats4, bsv L_round, bsv L_marry, bsv L_houses, bsv L_goods, bsv L_auction, bsv L_rent, bsv L_lottery, bsv L_heirs, bsv L_cake, bsv L_vote, bsv L_what]⟩
theorem k_q2 : FrzOk Tryz.prog c_q2.f c_q2.args true c_q2.r := runX (tab := [c_t2]) (tabH := []) [] (fcC k_t2 fcN) fhN noS_ok 60 (by kernel_rfl)
open Go Go.RowKit
noncomputable def c_s2 : Fact := ⟨6, [bsv (jn [L_line, L_margins, L_rule2, L_spoiler, L_axis, L_seats0, L_loss, L_seats4, L_round, L_marry, L_houses, L_goods, L_auction, L_rent, L_lottery, L_heirs, L_cake, L_vote, L_what])], .tup [bsv (jl [O_line, O_margins, (bz 0x61), (bz 0x31), (bz 0x656e6f6e), O_seats0, (bz 0x33), O_seats4, O_round, O_marry, O_houses, O_goods, O_auction, O_rent, O_lottery, O_heirs, O_cake, O_vote, O_what]), i 19]⟩
theorem k_s2 : FrzOk Tryz.prog c_s2.f c_s2.args true c_s2.r := runS (tabH := c_q2 :: tabRun) (fhC k_q2 tabRun_ok) sBld_ok 60 (by kernel_rfl)
open Go Go.RowKit
noncomputable def c_t3 : Fact := ⟨18, [bsv (jn [L_line, L_margins, L_rule3, L_spoiler, L_axis, L_seats0, L_loss, L_seats4, L_round, L_marry, L_houses, L_goods, L_auction, L_rent, L_lottery, L_heirs, L_cake, L_vote, L_what]), bsv (bz 0xa)], .sl false 1 [bsv L_line, bsv L_margins, bsv L_rule3, bsv L_spoiler, bsv L_axis, bsv L_seats0, bsv L_loss, bsv L_seats4, bsv L_round, bsv L_marry, bsv L_houses, bsv L_goods, bsv L_auction, bsv L_rent, bsv L_lottery, bsv L_heirs, bsv L_cake, bsv L_vote, bsv L_what]⟩
theorem k_t3 : CallOk Tryz.prog c_t3.f c_t3.args c_t3.r := by
 have h := splitP_ok _ _ (mSpl2_at ⟨⟨(jn [L_line, L_margins, L_rule3, L_spoiler, L_axis, L_seats0, L_loss, L_seats4, L_round, L_marry, L_houses, L_goods, L_auction, L_rent, L_lottery, L_heirs, L_cake, L_vote, L_what])⟩⟩ 10 (by exact ⟨of_decide_eq_true (by kernel_rfl), of_decide_eq_true (by kernel_rfl)⟩))
 rw [show (AV.sl false 1 ((splitS ⟨⟨(jn [L_line, L_margins, L_rule3, L_spoiler, L_axis, L_seats0, L_loss, L_seats4, L_round, L_marry, L_houses, L_goods, L_auction, L_rent, L_lottery, L_heirs, L_cake, L_vote, L_what])⟩⟩ 10).map str)) = c_t3.r from by kernel_rfl] at h
 exact h
open Go Go.RowKit
noncomputable def c_q3 : Fact := ⟨8, [bsv (jn [L_line, L_margins, L_rule3, L_spoiler, L_axis, L_seats0, L_loss, L_seats4, L_round, L_marry, L_houses, L_goods, L_auction, L_rent, L_lottery, L_heirs, L_cake, L_vote, L_what])], .sl false 1 [bsv L_line, bsv L_margins, bsv L_rule3, bsv L_spoiler, bsv L_axis, bsv L_seats0, bsv L_loss, bsv L_seats4, bsv L_round, bsv L_marry, bsv L_houses, bsv L_goods, bsv L_auction, bsv L_rent, bsv L_lottery, bsv L_heirs, bsv L_cake, bsv L_vote, bsv L_what]⟩
theorem k_q3 : FrzOk Tryz.prog c_q3.f c_q3.args true c_q3.r := runX (tab := [c_t3]) (tabH := []) [] (fcC k_t3 fcN) fhN noS_ok 60 (by kernel_rfl)
open Go Go.RowKit
noncomputable def c_s3 : Fact := ⟨6, [bsv (jn [L_line, L_margins, L_rule3, L_spoiler, L_axis, L_seats0, L_loss, L_seats4, L_round, L_marry, L_houses, L_goods, L_auction, L_rent, L_lottery, L_heirs, L_cake, L_vote, L_what])], .tup [bsv (jl [O_line, O_margins, (bz 0x6261), (bz 0x31), (bz 0x656e6f6e), O_seats0, (bz 0x33), O_seats4, O_round, O_marry, O_houses, O_goods, O_auction, O_rent, O_lottery, O_heirs, O_cake, O_vote, O_what]), i 19]⟩
theorem k_s3 : FrzOk Tryz.prog c_s3.f c_s3.args true c_s3.r := runS (tabH := c_q3 :: tabRun) (fhC k_q3 tabRun_ok) sBld_ok 60 (by kernel_rfl)
open Go Go.RowKit
noncomputable def c_t4 : Fact := ⟨18, [bsv (jn [L_line, L_margins, L_rule4, L_spoiler, L_axis, L_seats0, L_loss, L_seats4, L_round, L_marry, L_houses, L_goods, L_auction, L_rent, L_lottery, L_heirs, L_cake, L_vote, L_what]), bsv (bz 0xa)], .sl false 1 [bsv L_line, bsv L_margins, bsv L_rule4, bsv L_spoiler, bsv L_axis, bsv L_seats0, bsv L_loss, bsv L_seats4, bsv L_round, bsv L_marry, bsv L_houses, bsv L_goods, bsv L_auction, bsv L_rent, bsv L_lottery, bsv L_heirs, bsv L_cake, bsv L_vote, bsv L_what]⟩
theorem k_t4 : CallOk Tryz.prog c_t4.f c_t4.args c_t4.r := by
 have h := splitP_ok _ _ (mSpl2_at ⟨⟨(jn [L_line, L_margins, L_rule4, L_spoiler, L_axis, L_seats0, L_loss, L_seats4, L_round, L_marry, L_houses, L_goods, L_auction, L_rent, L_lottery, L_heirs, L_cake, L_vote, L_what])⟩⟩ 10 (by exact ⟨of_decide_eq_true (by kernel_rfl), of_decide_eq_true (by kernel_rfl)⟩))
 rw [show (AV.sl false 1 ((splitS ⟨⟨(jn [L_line, L_margins, L_rule4, L_spoiler, L_axis, L_seats0, L_loss, L_seats4, L_round, L_marry, L_houses, L_goods, L_auction, L_rent, L_lottery, L_heirs, L_cake, L_vote, L_what])⟩⟩ 10).map str)) = c_t4.r from by kernel_rfl] at h
 exact h
open Go Go.RowKit
noncomputable def c_q4 : Fact := ⟨8, [bsv (jn [L_line, L_margins, L_rule4, L_spoiler, L_axis, L_seats0, L_loss, L_seats4, L_round, L_marry, L_houses, L_goods, L_auction, L_rent, L_lottery, L_heirs, L_cake, L_vote, L_what])], .sl false 1 [bsv L_line, bsv L_margins, bsv L_rule4, bsv L_spoiler, bsv L_axis, bsv L_seats0, bsv L_loss, bsv L_seats4, bsv L_round, bsv L_marry, bsv L_houses, bsv L_goods, bsv L_auction, bsv L_rent, bsv L_lottery, bsv L_heirs, bsv L_cake, bsv L_vote, bsv L_what]⟩
theorem k_q4 : FrzOk Tryz.prog c_q4.f c_q4.args true c_q4.r := runX (tab := [c_t4]) (tabH := []) [] (fcC k_t4 fcN) fhN noS_ok 60 (by kernel_rfl)
open Go Go.RowKit
noncomputable def c_s4 : Fact := ⟨6, [bsv (jn [L_line, L_margins, L_rule4, L_spoiler, L_axis, L_seats0, L_loss, L_seats4, L_round, L_marry, L_houses, L_goods, L_auction, L_rent, L_lottery, L_heirs, L_cake, L_vote, L_what])], .tup [bsv (jl [O_line, O_margins, (bz 0x636261), (bz 0x31), (bz 0x656e6f6e), O_seats0, (bz 0x33), O_seats4, O_round, O_marry, O_houses, O_goods, O_auction, O_rent, O_lottery, O_heirs, O_cake, O_vote, O_what]), i 19]⟩
theorem k_s4 : FrzOk Tryz.prog c_s4.f c_s4.args true c_s4.r := runS (tabH := c_q4 :: tabRun) (fhC k_q4 tabRun_ok) sBld_ok 60 (by kernel_rfl)
open Go Go.RowKit
noncomputable def c_t13 : Fact := ⟨18, [bsv (jn [L_line, L_margins, L_rule13, L_spoiler, L_axis, L_seats0, L_loss, L_seats4, L_round, L_marry, L_houses, L_goods, L_auction, L_rent, L_lottery, L_heirs, L_cake, L_vote, L_what]), bsv (bz 0xa)], .sl false 1 [bsv L_line, bsv L_margins, bsv L_rule13, bsv L_spoiler, bsv L_axis, bsv L_seats0, bsv L_loss, bsv L_seats4, bsv L_round, bsv L_marry, bsv L_houses, bsv L_goods, bsv L_auction, bsv L_rent, bsv L_lottery, bsv L_heirs, bsv L_cake, bsv L_vote, bsv L_what]⟩
theorem k_t13 : CallOk Tryz.prog c_t13.f c_t13.args c_t13.r := by
 have h := splitP_ok _ _ (mSpl2_at ⟨⟨(jn [L_line, L_margins, L_rule13, L_spoiler, L_axis, L_seats0, L_loss, L_seats4, L_round, L_marry, L_houses, L_goods, L_auction, L_rent, L_lottery, L_heirs, L_cake, L_vote, L_what])⟩⟩ 10 (by exact ⟨of_decide_eq_true (by kernel_rfl), of_decide_eq_true (by kernel_rfl)⟩))
 rw [show (AV.sl false 1 ((splitS ⟨⟨(jn [L_line, L_margins, L_rule13, L_spoiler, L_axis, L_seats0, L_loss, L_seats4, L_round, L_marry, L_houses, L_goods, L_auction, L_rent, L_lottery, L_heirs, L_cake, L_vote, L_what])⟩⟩ 10).map str)) = c_t13.r from by kernel_rfl] at h
 exact h
open Go Go.RowKit
noncomputable def c_q13 : Fact := ⟨8, [bsv (jn [L_line, L_margins, L_rule13, L_spoiler, L_axis, L_seats0, L_loss, L_seats4, L_round, L_marry, L_houses, L_goods, L_auction, L_rent, L_lottery, L_heirs, L_cake, L_vote, L_what])], .sl false 1 [bsv L_line, bsv L_margins, bsv L_rule13, bsv L_spoiler, bsv L_axis, bsv L_seats0, bsv L_loss, bsv L_seats4, bsv L_round, bsv L_marry, bsv L_houses, bsv L_goods, bsv L_auction, bsv L_rent, bsv L_lottery, bsv L_heirs, bsv L_cake, bsv L_vote, bsv L_what]⟩
theorem k_q13 : FrzOk Tryz.prog c_q13.f c_q13.args true c_q13.r := runX (tab := [c_t13]) (tabH := []) [] (fcC k_t13 fcN) fhN noS_ok 60 (by kernel_rfl)
open Go Go.RowKit
noncomputable def c_s13 : Fact := ⟨6, [bsv (jn [L_line, L_margins, L_rule13, L_spoiler, L_axis, L_seats0, L_loss, L_seats4, L_round, L_marry, L_houses, L_goods, L_auction, L_rent, L_lottery, L_heirs, L_cake, L_vote, L_what])], .tup [bsv (jl [O_line, O_margins, (bz 0x61), (bz 0x31), (bz 0x656e6f6e), O_seats0, (bz 0x33), O_seats4, O_round, O_marry, O_houses, O_goods, O_auction, O_rent, O_lottery, O_heirs, O_cake, O_vote, O_what]), i 19]⟩
theorem k_s13 : FrzOk Tryz.prog c_s13.f c_s13.args true c_s13.r := runS (tabH := c_q13 :: tabRun) (fhC k_q13 tabRun_ok) sBld_ok 60 (by kernel_rfl)
open Go Go.RowKit
noncomputable def c_u1 : Fact := ⟨18, [bsv (jl [O_line, O_margins, (bz 0x61), (bz 0x31), (bz 0x656e6f6e), O_seats0, (bz 0x33), O_seats4, O_round, O_marry, O_houses, O_goods, O_auction, O_rent, O_lottery, O_heirs, O_cake, O_vote, O_what]), bsv (bz 0xa)], .sl false 1 [bsv O_line, bsv O_margins, bsv (bz 0x61), bsv (bz 0x31), bsv (bz 0x656e6f6e), bsv O_seats0, bsv (bz 0x33), bsv O_seats4, bsv O_round, bsv O_marry, bsv O_houses, bsv O_goods, bsv O_auction, bsv O_rent, bsv O_lottery, bsv O_heirs, bsv O_cake, bsv O_vote, bsv O_what, bsv []]⟩
theorem k_u1 : CallOk Tryz.prog c_u1.f c_u1.args c_u1.r := by
 have h := splitP_ok _ _ (mSpl2_at ⟨⟨(jl [O_line, O_margins, (bz 0x61), (bz 0x31), (bz 0x656e6f6e), O_seats0, (bz 0x33), O_seats4, O_round, O_marry, O_houses, O_goods, O_auction, O_rent, O_lottery, O_heirs, O_cake, O_vote, O_what])⟩⟩ 10 (by exact ⟨of_decide_eq_true (by kernel_rfl), of_decide_eq_true (by kernel_rfl)⟩))
 rw [show (AV.sl false 1 ((splitS ⟨⟨(jl [O_line, O_margins, (bz 0x61), (bz 0x31), (bz 0x656e6f6e), O_seats0, (bz 0x33), O_seats4, O_round, O_marry, O_houses, O_goods, O_auction, O_rent, O_lottery, O_heirs, O_cake, O_vote, O_what])⟩⟩ 10).map str)) = c_u1.r from by kernel_rfl] at h
 exact h
open Go Go.RowKit
noncomputable def c_o1 : Fact := ⟨8, [bsv (jl [O_line, O_margins, (bz 0x61), (bz 0x31), (bz 0x656e6f6e), O_seats0, (bz 0x33), O_seats4, O_round, O_marry, O_houses, O_goods, O_auction, O_rent, O_lottery, O_heirs, O_cake, O_vote, O_what])], .sl false 1 [bsv O_line, bsv O_margins, bsv (bz 0x61), bsv (bz 0x31), bsv (bz 0x656e6f6e), bsv O_seats0, bsv (bz 0x33), bsv O_seats4, bsv O_round, bsv O_marry, bsv O_houses, bsv O_goods, bsv O_auction, bsv O_rent, bsv O_lottery, bsv O_heirs, bsv O_cake, bsv O_vote, bsv O_what]⟩
theorem k_o1 : FrzOk Tryz.prog c_o1.f c_o1.args true c_o1.r := runX (tab := [c_u1]) (tabH := []) [] (fcC k_u1 fcN) fhN noS_ok 60 (by kernel_rfl)
open Go Go.RowKit
noncomputable def c_u3 : Fact := ⟨18, [bsv (jl [O_line, O_margins, (bz 0x6261), (bz 0x31), (bz 0x656e6f6e), O_seats0, (bz 0x33), O_seats4, O_round, O_marry, O_houses, O_goods, O_auction, O_rent, O_lottery, O_heirs, O_cake, O_vote, O_what]), bsv (bz 0xa)], .sl false 1 [bsv O_line, bsv O_margins, bsv (bz 0x6261), bsv (bz 0x31), bsv (bz 0x656e6f6e), bsv O_seats0, bsv (bz 0x33), bsv O_seats4, bsv O_round, bsv O_marry, bsv O_houses, bsv O_goods, bsv O_auction, bsv O_rent, bsv O_lottery, bsv O_heirs, bsv O_cake, bsv O_vote, bsv O_what, bsv []]⟩
theorem k_u3 : CallOk Tryz.prog c_u3.f c_u3.args c_u3.r := by
 have h := splitP_ok _ _ (mSpl2_at ⟨⟨(jl [O_line, O_margins, (bz 0x6261), (bz 0x31), (bz 0x656e6f6e), O_seats0, (bz 0x33), O_seats4, O_round, O_marry, O_houses, O_goods, O_auction, O_rent, O_lottery, O_heirs, O_cake, O_vote, O_what])⟩⟩ 10 (by exact ⟨of_decide_eq_true (by kernel_rfl), of_decide_eq_true (by kernel_rfl)⟩))
 rw [show (AV.sl false 1 ((splitS ⟨⟨(jl [O_line, O_margins, (bz 0x6261), (bz 0x31), (bz 0x656e6f6e), O_seats0, (bz 0x33), O_seats4, O_round, O_marry, O_houses, O_goods, O_auction, O_rent, O_lottery, O_heirs, O_cake, O_vote, O_what])⟩⟩ 10).map str)) = c_u3.r from by kernel_rfl] at h
 exact h
open Go Go.RowKit
noncomputable def c_o3 : Fact := ⟨8, [bsv (jl [O_line, O_margins, (bz 0x6261), (bz 0x31), (bz 0x656e6f6e), O_seats0, (bz 0x33), O_seats4, O_round, O_marry, O_houses, O_goods, O_auction, O_rent, O_lottery, O_heirs, O_cake, O_vote, O_what])], .sl false 1 [bsv O_line, bsv O_margins, bsv (bz 0x6261), bsv (bz 0x31), bsv (bz 0x656e6f6e), bsv O_seats0, bsv (bz 0x33), bsv O_seats4, bsv O_round, bsv O_marry, bsv O_houses, bsv O_goods, bsv O_auction, bsv O_rent, bsv O_lottery, bsv O_heirs, bsv O_cake, bsv O_vote, bsv O_what]⟩
theorem k_o3 : FrzOk Tryz.prog c_o3.f c_o3.args true c_o3.r := runX (tab := [c_u3]) (tabH := []) [] (fcC k_u3 fcN) fhN noS_ok 60 (by kernel_rfl)
open Go Go.RowKit
noncomputable def c_u4 : Fact := ⟨18, [bsv (jl [O_line, O_margins, (bz 0x636261), (bz 0x31), (bz 0x656e6f6e), O_seats0, (bz 0x33), O_seats4, O_round, O_marry, O_houses, O_goods, O_auction, O_rent, O_lottery, O_heirs, O_cake, O_vote, O_what]), bsv (bz 0xa)], .sl false 1 [bsv O_line, bsv O_margins, bsv (bz 0x636261), bsv (bz 0x31), bsv (bz 0x656e6f6e), bsv O_seats0, bsv (bz 0x33), bsv O_seats4, bsv O_round, bsv O_marry, bsv O_houses, bsv O_goods, bsv O_auction, bsv O_rent, bsv O_lottery, bsv O_heirs, bsv O_cake, bsv O_vote, bsv O_what, bsv []]⟩
theorem k_u4 : CallOk Tryz.prog c_u4.f c_u4.args c_u4.r := by
 have h := splitP_ok _ _ (mSpl2_at ⟨⟨(jl [O_line, O_margins, (bz 0x636261), (bz 0x31), (bz 0x656e6f6e), O_seats0, (bz 0x33), O_seats4, O_round, O_marry, O_houses, O_goods, O_auction, O_rent, O_lottery, O_heirs, O_cake, O_vote, O_what])⟩⟩ 10 (by exact ⟨of_decide_eq_true (by kernel_rfl), of_decide_eq_true (by kernel_rfl)⟩))
 rw [show (AV.sl false 1 ((splitS ⟨⟨(jl [O_line, O_margins, (bz 0x636261), (bz 0x31), (bz 0x656e6f6e), O_seats0, (bz 0x33), O_seats4, O_round, O_marry, O_houses, O_goods, O_auction, O_rent, O_lottery, O_heirs, O_cake, O_vote, O_what])⟩⟩ 10).map str)) = c_u4.r from by kernel_rfl] at h
 exact h
open Go Go.RowKit
noncomputable def c_o4 : Fact := ⟨8, [bsv (jl [O_line, O_margins, (bz 0x636261), (bz 0x31), (bz 0x656e6f6e), O_seats0, (bz 0x33), O_seats4, O_round, O_marry, O_houses, O_goods, O_auction, O_rent, O_lottery, O_heirs, O_cake, O_vote, O_what])], .sl false 1 [bsv O_line, bsv O_margins, bsv (bz 0x636261), bsv (bz 0x31), bsv (bz 0x656e6f6e), bsv O_seats0, bsv (bz 0x33), bsv O_seats4, bsv O_round, bsv O_marry, bsv O_houses, bsv O_goods, bsv O_auction, bsv O_rent, bsv O_lottery, bsv O_heirs, bsv O_cake, bsv O_vote, bsv O_what]⟩
theorem k_o4 : FrzOk Tryz.prog c_o4.f c_o4.args true c_o4.r := runX (tab := [c_u4]) (tabH := []) [] (fcC k_u4 fcN) fhN noS_ok 60 (by kernel_rfl)
open Go Go.RowKit
set_option linter.unusedSimpArgs false
noncomputable def tabC : List Fact := [c_s1, c_s2, c_s3, c_s4, c_s13, c_o1, c_o3, c_o4]
theorem tabC_ok : ∀ x ∈ tabC, FrzOk Tryz.prog x.f x.args true x.r := fhC k_s1 (fhC k_s2 (fhC k_s3 (fhC k_s4 (fhC k_s13 (fhC k_o1 (fhC k_o3 (fhC k_o4 fhN)))))))
open Classical in
noncomputable def gC (nl : Bool) (xs : List Int) (f : FuncId) (args : List AV) : Option AV :=
 if f = 5 then (if args = [byts nl xs, .v (.int .i64 1)] then some (.v (.int .i64 (mkNum xs 1))) else none) else if f = 7 then runG Tryz.prog (anW []) 10 f args else none
noncomputable def cC (nl : Bool) (xs : List Int) : Ctx := ⟨tyOf Tryz.prog, eqT, gC nl xs, fun _ _ => none, fun _ _ => none, fun f args => (match lkB f args tabC with
 | some r => some (true, r)
 | none => none), true⟩
theorem cC_ok {nl : Bool} {xs : List Int} (hl : xs.length ≤ 1048576) : (cC nl xs).Ok Tryz.prog := by
 refine ⟨fun _ _ h => by simp only [cC] at h; exact tyOf_ok h, fun t n h => by simp only [cC] at h; exact eqOk t n h, fun f args r hr => ?_, fun _ _ _ _ _ h => by simp [cC] at h, fun _ _ _ _ h => by simp [cC] at h, fun f args sh r hr => ?_⟩
 ·simp only [cC, gC] at hr
  split at hr
  ·rename_i e; subst e
   split at hr
   ·rename_i e; subst e
    simp only [Option.some.injEq] at hr; subst hr
    exact makeNum_call hl 1 (by omega)
   ·simp at hr
  ·split at hr
   ·exact runF fcN 10 hr
   ·simp at hr
 ·simp only [cC] at hr
  split at hr
  ·rename_i r' e
   simp only [Option.some.injEq, Prod.mk.injEq] at hr
   obtain ⟨rfl, rfl⟩ := hr
   exact lkB_ok tabC_ok e
  ·simp at hr
theorem tail0 (nl : Bool) (xs : List Int) (l : List AV) : finG (cC nl xs) (exC (cC nl xs) fiConf 100 cR4 (stDC (.sl nl 1 l) 0)) = some (.v (.bool true)) := by kernel_rfl
theorem tail1 (nl : Bool) (xs : List Int) (l : List AV) : finG (cC nl xs) (exC (cC nl xs) fiConf 100 cR4 (stDC (.sl nl 1 l) 1)) = some (.v (.bool true)) := by kernel_rfl
theorem tail2 (nl : Bool) (xs : List Int) (l : List AV) : finG (cC nl xs) (exC (cC nl xs) fiConf 100 cR4 (stDC (.sl nl 1 l) 2)) = some (.v (.bool true)) := by kernel_rfl
theorem tail3 (nl : Bool) (xs : List Int) (l : List AV) : finG (cC nl xs) (exC (cC nl xs) fiConf 100 cR4 (stDC (.sl nl 1 l) 3)) = some (.v (.bool true)) := by kernel_rfl
theorem tail4 (nl : Bool) (xs : List Int) (l : List AV) : finG (cC nl xs) (exC (cC nl xs) fiConf 100 cR4 (stDC (.sl nl 1 l) 4)) = some (.v (.bool true)) := by kernel_rfl
noncomputable def anC : An := { anW [] with loops := 100 }
noncomputable def cE : Ctx := ⟨tyOf Tryz.prog, eqT, fun _ _ => none, fun _ _ => none, fun _ _ => none, fun _ _ => none, true⟩
theorem cE_ok : cE.Ok Tryz.prog := by
 refine ⟨fun _ _ h => by simp only [cE] at h; exact tyOf_ok h, fun t n h => by simp only [cE] at h; exact eqOk t n h, fun _ _ _ h => by simp [cE] at h, fun _ _ _ _ _ h => by simp [cE] at h, fun _ _ _ _ h => by simp [cE] at h, fun _ _ _ _ h => by simp [cE] at h⟩
theorem fnConfirms_call (nl : Bool) (xs : List Int) : CallOk Tryz.prog 3 [byts nl xs] (.v (.bool true)) := by
 by_cases hl : xs.length ≤ 1048576
 ·refine goG_ok (A := anC) (I := fiConf) (cC_ok (nl := nl) hl) mixed ?_
  have hb := mkNum_bd (by' := xs) (n := 1)
  have hG : (cC nl xs).G 5 [.sl nl 1 (xs.map bAV), .v (.int .i64 1)] = some (.v (.int .i64 (mkNum xs 1))) := by
   simp [cC, gC, byts]
  rw [show byts nl xs = .sl nl 1 (xs.map bAV) from rfl, go_short anC (by simp only [anC]) (cC nl xs) (by simp only [cC]) nl (xs.map bAV) (by simpa using hl) (mkNum xs 1) hb hG]
  have hk : mkNum xs 1 % 5 = 0 ∨ mkNum xs 1 % 5 = 1 ∨ mkNum xs 1 % 5 = 2 ∨ mkNum xs 1 % 5 = 3 ∨ mkNum xs 1 % 5 = 4 := by omega
  rcases hk with h | h | h | h | h <;> rw [h]
  ·exact tail0 nl xs _
  ·exact tail1 nl xs _
  ·exact tail2 nl xs _
  ·exact tail3 nl xs _
  ·exact tail4 nl xs _
 ·refine goG_ok (A := anC) (I := fiConf) cE_ok mixed ?_
  exact go_long anC (by simp only [anC]) cE (by simp only [cE]) nl (xs.map bAV) (by simp; omega)
end Go.Proofs.YtompijgfpeibnaaGreatDoor.Ax
