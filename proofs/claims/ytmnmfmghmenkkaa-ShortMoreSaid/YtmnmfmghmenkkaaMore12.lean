/-
  law 12
  Printed by wip/tools/walk.py. Conditions: none; definitions and lemmas.
-/
import Derived.Test.YtmnmfmghmenkkaaKnown1
import Derived.Test.YtmnmfmghmenkkaaPurM
import Derived.Test.YtmnmfmghmenkkaaCount1
import Derived.Test.YtmnmfmghmenkkaaArch1
import Derived.Test.YtmnmfmghmenkkaaLeft27
set_option linter.unusedSimpArgs false
set_option linter.unusedVariables false
namespace Go.Proofs.Ytmnmfmghmenkkaa
open Go.Abs Go.Pur
set_option maxRecDepth 100000
set_option maxHeartbeats 2000000
attribute [local simp] EK_region EK_seq EK_cond EK_block EK_blk EK_loop EK_exit EK.ex EK_ret EK_skip EK_nil EO_cons EO_nil EO1_true EO1_false EO2_some EO3_some EB_true EB_false pwanted poper pq pev Go.Pur.look pputT isAssign drOf pinit Tr.get_set lget pvOf_int pvOf_bool pvOf_str pvOf_nil rdv_ak notOwn_ak prt_ak loose_ak rdv_own rdv_fz rdv_bor rdv_rf rdv_pt rdv_v rdv_a rdv_t rdv_r rdv_p rdv_s rdv_f pbin plen pload ppart idxAddr pcond Nat.blt goInt_eq prun_not prun_neg mayLoad ER_ret ER_normal presL presOne moved stor okDrop settle_v settle_l settle_a settle_p settle_f noref_v noref_fz noref_a norefs_nil norefs_cons pclose given dropB Y0_keep pevParts stors pvCells pvCells.go vcells pfill reps zipParts ownFz pcells cellOK one psrcLen srcFits psrc takeP pgrow take getPl setPl mapL plEq elder isList lowP pevs frzs addP partAt ble_lim24 killV_v killV_a killV_t killV_f killV_i killV_p killV_s killV_un killV_dead killV_lfz killV_lbor killV_lown killV_rfz killV_rbor killV_lak killV_rak frzV_v frzV_a frzV_t frzV_f frzV_i frzV_p frzV_s frzV_un frzV_dead frzV_lfz frzV_lbor frzV_lown frzV_rfz frzV_rbor frzV_lak frzV_rak killCell_v killCell_a killCell_t killCell_f killCell_i killCell_p killCell_s killCell_un killCell_dead killCell_lfz killCell_lbor killCell_lown killCell_rfz killCell_rbor killCell_lak killCell_rak killV_lrf killV_lpt killV_rpt frzV_lrf frzV_lpt frzV_rpt killCell_lrft killCell_lptt killCell_rptt killCell_lrfc killCell_lptc killCell_rptc argv_lak argv_rak argv_v argv_a argv_p argv_f argv_fz argv_bor argv_rf argv_pt argv_rc argv_own mayTurn_none argvs pcallOp firm refsTo_v refsTo_l refsTo_p refsTo_s refsTo_a refsTo_dead refsTo_nil refsTo_cons isOwn_lak ownFz_lak evSafe pskip plain pnewBlk fldAddr isOwn pput notOwn_fz notOwn_bor notOwn_own notOwn_rf notOwn_pt prt_fz prt_bor prt_own prt_rf prt_pt Go.Pur.freeze presM settles abin_and abin_or abin_andNot abin_mul abin_shr abin_shl abin_add abin_sub abin_eql abin_neq abin_lss abin_leq abin_gtr abin_geq hows pcallIn Y0_how Y0_part howOf partOf rdv_mown rdv_mfz rdv_mbor rdv_mrf killV_mown killV_mfz killV_mbor killV_mrf frzV_mown frzV_mfz frzV_mbor frzV_mrf killCell_mown killCell_mfz killCell_mbor killCell_mrf argv_mfz argv_mbor argv_mrf settle_m kls_v kls_l kls_a kls_t kls_r kls_p kls_s kls_f kls_i kls_it kls_un kls_dead kls_mown kls_mrf kls_mbor kls_mfz fzOf takable mapHere mapOwn mapTo flat toPlain toPlain.go ofFlat ofPair mapEs plook lookRes Y0_mv mvOf mvBlk premv Y0_fzm fzmOf poperX pconv keep12 sz3 by3 row3 zero3 sz4 by4 row4 zero4 sz5 by5 row5 zero5 sz9 by9 row9 shape9 zero9 sz21 by21 row21 zero21 sz22 by22 row22 zero22 sz24 by24 row24 zero24 sz29 by29 row29 shape29 zero29 sz36 by36 row36 shape36 zero36 sz52 by52 row52 shape52 zero52 parts52 sz54 by54 row54 zero54 parts54 field54_0 field54_1 sz58 by58 row58 zero58 mt58 az3 sz63 by63 row63 zero63 sz66 by66 row66 shape66 zero66 parts66 sz67 by67 row67 shape67 zero67 sz75 by75 row75 shape75 zero75 sz76 by76 row76 shape76 zero76 sz78 by78 row78 zero78 mt78 sz79 by79 row79 shape79 zero79 sz92 by92 row92 zero92 sz94 by94 row94 zero94 parts94 field94_0 field94_1 sz99 by99 row99 shape99 zero99 sz102 by102 row102 zero102 mt102 az4 sz103 by103 row103 zero103 mt103 sz106 by106 row106 zero106 parts106 field106_0 field106_1 sz108 by108 row108 zero108 parts108 field108_0 field108_1 sz109 by109 row109 shape109 zero109 sz110 by110 row110 zero110 mt110 sz112 by112 row112 zero112 sz115 by115 row115 zero115 sz116 by116 row116 zero116 sz119 by119 row119 zero119 sz127 by127 row127 zero127 sz129 by129 row129 zero129 sz130 by130 row130 zero130 sz134 by134 row134 zero134 bs_size gAt gAt0 sAt sAt0 optPlain rows_len noMaker_eq kindOf vlOf abin_rem abin_quo mayTurn_none lowOf_none Go.Pur.partAt rows_nil rows_cons ble_add ble_add0 ble_same toPlain toPlain.go intIn2_0 intIn2_1 ble12 ble22 tv lv max_int min_int pplains ak_true ak_false apartP beq_add beq_add0 beq_add1 argv_s wok_none wok_low_iff lowOf_wok
theorem conv_5_3More12 {z : Int} : prunP Try.prog (convert 5 3 (.int .u8 z)) = some (.int .i64 (IntKind.i64.wrap z)) := by kernel_rfl
theorem conv_63_3More12 {z : Int} : prunP Try.prog (convert 63 3 (.int .u16 z)) = some (.int .i64 (IntKind.i64.wrap z)) := by kernel_rfl
def f12S (F : Nat) (p0a : Int) (p0b : Int) (p0c : Int) (p0d : Int) (p0e : Int) (p0f : Int) (p0g : Int) (p0h : Int) (p0i : Int) (p0j : Int) (p0k : Int) (p1 : Int) (p2 : Int) (p3 : Int) (p4 : Int) : Option (Bool) :=
  (f51O [p0a, p0b, p0c, p0d, p0e, p0f, p0g, p0h, p0i, p0j, p0k] 9 3).bind fun x1 =>
  (some (IntKind.i64.wrap p2)).bind fun x2 =>
  (some ((x1.length : Int))).bind fun x3 =>
  (some (IntKind.i64.wrap (x3 + 1))).bind fun x4 =>
  (remO x2 x4).bind fun x5 =>
  (subT x1 x5).bind fun x6 =>
  (some (IntKind.i64.wrap p1)).bind fun x7 =>
  (some (Int.tmod x7 3)).bind fun x8 =>
  (some (IntKind.i64.wrap (x8 + 1))).bind fun x9 =>
  (sub2 [97, 98, 99] x8 x9).bind fun x10 =>
  (sadd x6 x10).bind fun x11 =>
  (subF x1 x5).bind fun x12 =>
  (sadd x11 x12).bind fun x13 =>
  (some (IntKind.i64.wrap p3)).bind fun x14 =>
  (f53O x1 x14).bind fun x15 =>
  (some (IntKind.i64.wrap p4)).bind fun x16 =>
  (f53O x15 x16).bind fun x17 =>
  (leftO x1 x15).bind fun x18 =>
  (match x18 with
  | true => ((leftO x13 x15).bind fun x19 =>
  (match x19 with
  | true => ((leftO x15 x17).bind fun x20 =>
  (match x20 with
  | true => ((leftO x1 x17).bind fun x21 =>
  (match x21 with
  | true => ((leftO x13 x1).bind fun x22 =>
  (match x22 with
  | true => ((f29S F x1).bind fun (x23, x24) =>
  (f29S F x13).bind fun (x26, x27) =>
  (f36S F x1 3).bind fun ((c29, l30), x31) =>
  (f36S F x13 3).bind fun ((c33, l34), x35) =>
  (some (decide (x24 = 0))).bind fun x37 =>
  (match x37 with
  | true => ((some (decide (x27 = 0))).bind fun x38 =>
  (match x38 with
  | true => ((some (decide (x31 = 0))).bind fun x39 =>
  (match x39 with
  | true => ((some (decide (x35 = 0))).bind fun x40 =>
  (match x40 with
  | true => ((some (decide (x23 < x26))).bind fun x41 =>
  (match x41 with
  | true => ((some ((l30.length : Int))).bind fun x42 =>
  (some ((l34.length : Int))).bind fun x43 =>
  (some (decide (x42 ≤ x43))).bind fun x44 =>
  (match x44 with
  | true => (some true)
  | false => (some false)))
  | false => (some false)))
  | false => (some false)))
  | false => (some false)))
  | false => (some false)))
  | false => (some false)))
  | false => (some false)))
  | false => (some false)))
  | false => (some false)))
  | false => (some false)))
  | false => (some false))
theorem f12_is {p0a : Int} {p0b : Int} {p0c : Int} {p0d : Int} {p0e : Int} {p0f : Int} {p0g : Int} {p0h : Int} {p0i : Int} {p0j : Int} {p0k : Int} {p1 : Int} {p2 : Int} {p3 : Int} {p4 : Int} {hp : List (Option (List PV))} {F : Nat} {r : (Bool)}  (h : f12S F p0a p0b p0c p0d p0e p0f p0g p0h p0i p0j p0k p1 p2 p3 p4 = some r) :
    E Try.prog Y0 12 [.a [kv .u8 p0a, kv .u8 p0b, kv .u8 p0c, kv .u8 p0d, kv .u8 p0e, kv .u8 p0f, kv .u8 p0g, kv .u8 p0h, kv .u8 p0i, kv .u8 p0j, kv .u8 p0k], kv .u8 p1, kv .u8 p2, kv .u16 p3, kv .u16 p4] hp = some (.v (.bool r), hp, none) := by
  rw [E_bodyN 5 body12 rfl (by decide) rfl]
  simp only [Try.f12, Option.get_some]
  unfold f12S at h
  obtain ⟨x1, ex1, h⟩ := bind_ok h
  have ex1 : ∀ hp, E Try.prog Y0 51 [.a [kv .u8 p0a, kv .u8 p0b, kv .u8 p0c, kv .u8 p0d, kv .u8 p0e, kv .u8 p0f, kv .u8 p0g, kv .u8 p0h, kv .u8 p0i, kv .u8 p0j, kv .u8 p0k], iv 9, iv 3] hp = some (.v (.string (bs x1)), hp, none) := fun hp => f51_is ex1
  obtain ⟨x2, ex2, h⟩ := bindT h
  obtain ⟨x3, ex3, h⟩ := bindT h
  obtain ⟨x4, ex4, h⟩ := bindT h
  obtain ⟨x5, ex5, h⟩ := bind_ok h
  obtain ⟨ex5a, ex5⟩ := remO_ok ex5
  obtain ⟨x6, ex6, h⟩ := bind_ok h
  have ex6 := fun {k : IntKind} => subT_ok (P := Try.prog) (t := 9) Try.underlying9 ex6 (k := k)
  obtain ⟨x7, ex7, h⟩ := bindT h
  obtain ⟨x8, ex8, h⟩ := bindT h
  obtain ⟨x9, ex9, h⟩ := bindT h
  obtain ⟨x10, ex10, h⟩ := bind_ok h
  have ex10 := fun {k j : IntKind} => sub2_ok (P := Try.prog) (t := 9) Try.underlying9 ex10 (k := k) (j := j)
  obtain ⟨x11, ex11, h⟩ := bind_ok h
  obtain ⟨ex11a, ex11⟩ := sadd_ok ex11
  obtain ⟨x12, ex12, h⟩ := bind_ok h
  have ex12 := fun {k : IntKind} => subF_ok (P := Try.prog) (t := 9) Try.underlying9 ex12 (k := k)
  obtain ⟨x13, ex13, h⟩ := bind_ok h
  obtain ⟨ex13a, ex13⟩ := sadd_ok ex13
  obtain ⟨x14, ex14, h⟩ := bindT h
  obtain ⟨x15, ex15, h⟩ := bind_ok h
  have ex15 : ∀ hp, E Try.prog Y0 53 [.v (.string (bs x1)), iv x14] hp = some (.v (.string (bs x15)), hp, none) := fun hp => f53_is ex15
  obtain ⟨x16, ex16, h⟩ := bindT h
  obtain ⟨x17, ex17, h⟩ := bind_ok h
  have ex17 : ∀ hp, E Try.prog Y0 53 [.v (.string (bs x15)), iv x16] hp = some (.v (.string (bs x17)), hp, none) := fun hp => f53_is ex17
  obtain ⟨x18, ex18, h⟩ := bind_ok h
  have ex18 : ∀ hp, E Try.prog Y0 27 [.v (.string (bs x1)), .v (.string (bs x15))] hp = some (.v (.bool x18), hp, none) := fun hp => f27_is ex18
  cases x18
  case false =>
   obtain rfl := inj_ok h
   simp [ex1, conv_5_3More12, ex2, ex3, ex4, ex5, ex5a, ex6, shape9, pqSlice, ex7, ex8, ex9, ex10, ex11, abin_sadd ex11a, ex12, ex13, abin_sadd ex13a, conv_63_3More12, ex14, ex15, ex16, ex17, ex18]
  obtain ⟨x19, ex19, h⟩ := bind_ok h
  have ex19 : ∀ hp, E Try.prog Y0 27 [.v (.string (bs x13)), .v (.string (bs x15))] hp = some (.v (.bool x19), hp, none) := fun hp => f27_is ex19
  cases x19
  case false =>
   obtain rfl := inj_ok h
   simp [ex1, conv_5_3More12, ex2, ex3, ex4, ex5, ex5a, ex6, shape9, pqSlice, ex7, ex8, ex9, ex10, ex11, abin_sadd ex11a, ex12, ex13, abin_sadd ex13a, conv_63_3More12, ex14, ex15, ex16, ex17, ex18, ex19]
  obtain ⟨x20, ex20, h⟩ := bind_ok h
  have ex20 : ∀ hp, E Try.prog Y0 27 [.v (.string (bs x15)), .v (.string (bs x17))] hp = some (.v (.bool x20), hp, none) := fun hp => f27_is ex20
  cases x20
  case false =>
   obtain rfl := inj_ok h
   simp [ex1, conv_5_3More12, ex2, ex3, ex4, ex5, ex5a, ex6, shape9, pqSlice, ex7, ex8, ex9, ex10, ex11, abin_sadd ex11a, ex12, ex13, abin_sadd ex13a, conv_63_3More12, ex14, ex15, ex16, ex17, ex18, ex19, ex20]
  obtain ⟨x21, ex21, h⟩ := bind_ok h
  have ex21 : ∀ hp, E Try.prog Y0 27 [.v (.string (bs x1)), .v (.string (bs x17))] hp = some (.v (.bool x21), hp, none) := fun hp => f27_is ex21
  cases x21
  case false =>
   obtain rfl := inj_ok h
   simp [ex1, conv_5_3More12, ex2, ex3, ex4, ex5, ex5a, ex6, shape9, pqSlice, ex7, ex8, ex9, ex10, ex11, abin_sadd ex11a, ex12, ex13, abin_sadd ex13a, conv_63_3More12, ex14, ex15, ex16, ex17, ex18, ex19, ex20, ex21]
  obtain ⟨x22, ex22, h⟩ := bind_ok h
  have ex22 : ∀ hp, E Try.prog Y0 27 [.v (.string (bs x13)), .v (.string (bs x1))] hp = some (.v (.bool x22), hp, none) := fun hp => f27_is ex22
  cases x22
  case false =>
   obtain rfl := inj_ok h
   simp [ex1, conv_5_3More12, ex2, ex3, ex4, ex5, ex5a, ex6, shape9, pqSlice, ex7, ex8, ex9, ex10, ex11, abin_sadd ex11a, ex12, ex13, abin_sadd ex13a, conv_63_3More12, ex14, ex15, ex16, ex17, ex18, ex19, ex20, ex21, ex22]
  obtain ⟨⟨x23, x24⟩, e25, h⟩ := bind_ok h
  try dsimp only at h
  have e25 : ∀ hp, E Try.prog Y0 29 [.v (.string (bs x1))] hp = some (.t [iv x23, iv x24], hp, none) := fun hp => f29_is  e25
  obtain ⟨⟨x26, x27⟩, e28, h⟩ := bind_ok h
  try dsimp only at h
  have e28 : ∀ hp, E Try.prog Y0 29 [.v (.string (bs x13))] hp = some (.t [iv x26, iv x27], hp, none) := fun hp => f29_is  e28
  obtain ⟨⟨⟨c29, l30⟩, x31⟩, e32, h⟩ := bind_ok h
  try dsimp only at h
  have e32 : ∀ hp, E Try.prog Y0 36 [.v (.string (bs x1)), iv 3] hp = some (.t [.l .fz c29 l30.length (l30.map iv), iv x31], hp, none) := fun hp => f36_is  e32
  obtain ⟨⟨⟨c33, l34⟩, x35⟩, e36, h⟩ := bind_ok h
  try dsimp only at h
  have e36 : ∀ hp, E Try.prog Y0 36 [.v (.string (bs x13)), iv 3] hp = some (.t [.l .fz c33 l34.length (l34.map iv), iv x35], hp, none) := fun hp => f36_is  e36
  obtain ⟨x37, ex37, h⟩ := bindT h
  cases x37
  case false =>
   obtain rfl := inj_ok h
   simp [ex1, conv_5_3More12, ex2, ex3, ex4, ex5, ex5a, ex6, shape9, pqSlice, ex7, ex8, ex9, ex10, ex11, abin_sadd ex11a, ex12, ex13, abin_sadd ex13a, conv_63_3More12, ex14, ex15, ex16, ex17, ex18, ex19, ex20, ex21, ex22, e25, e28, e32, e36, ex37]
  obtain ⟨x38, ex38, h⟩ := bindT h
  cases x38
  case false =>
   obtain rfl := inj_ok h
   simp [ex1, conv_5_3More12, ex2, ex3, ex4, ex5, ex5a, ex6, shape9, pqSlice, ex7, ex8, ex9, ex10, ex11, abin_sadd ex11a, ex12, ex13, abin_sadd ex13a, conv_63_3More12, ex14, ex15, ex16, ex17, ex18, ex19, ex20, ex21, ex22, e25, e28, e32, e36, ex37, ex38]
  obtain ⟨x39, ex39, h⟩ := bindT h
  cases x39
  case false =>
   obtain rfl := inj_ok h
   simp [ex1, conv_5_3More12, ex2, ex3, ex4, ex5, ex5a, ex6, shape9, pqSlice, ex7, ex8, ex9, ex10, ex11, abin_sadd ex11a, ex12, ex13, abin_sadd ex13a, conv_63_3More12, ex14, ex15, ex16, ex17, ex18, ex19, ex20, ex21, ex22, e25, e28, e32, e36, ex37, ex38, ex39]
  obtain ⟨x40, ex40, h⟩ := bindT h
  cases x40
  case false =>
   obtain rfl := inj_ok h
   simp [ex1, conv_5_3More12, ex2, ex3, ex4, ex5, ex5a, ex6, shape9, pqSlice, ex7, ex8, ex9, ex10, ex11, abin_sadd ex11a, ex12, ex13, abin_sadd ex13a, conv_63_3More12, ex14, ex15, ex16, ex17, ex18, ex19, ex20, ex21, ex22, e25, e28, e32, e36, ex37, ex38, ex39, ex40]
  obtain ⟨x41, ex41, h⟩ := bindT h
  cases x41
  case false =>
   obtain rfl := inj_ok h
   simp [ex1, conv_5_3More12, ex2, ex3, ex4, ex5, ex5a, ex6, shape9, pqSlice, ex7, ex8, ex9, ex10, ex11, abin_sadd ex11a, ex12, ex13, abin_sadd ex13a, conv_63_3More12, ex14, ex15, ex16, ex17, ex18, ex19, ex20, ex21, ex22, e25, e28, e32, e36, ex37, ex38, ex39, ex40, ex41]
  obtain ⟨x42, ex42, h⟩ := bindT h
  obtain ⟨x43, ex43, h⟩ := bindT h
  obtain ⟨x44, ex44, h⟩ := bindT h
  cases x44
  case false =>
   obtain rfl := inj_ok h
   simp [ex1, conv_5_3More12, ex2, ex3, ex4, ex5, ex5a, ex6, shape9, pqSlice, ex7, ex8, ex9, ex10, ex11, abin_sadd ex11a, ex12, ex13, abin_sadd ex13a, conv_63_3More12, ex14, ex15, ex16, ex17, ex18, ex19, ex20, ex21, ex22, e25, e28, e32, e36, ex37, ex38, ex39, ex40, ex41, ex42, ex43, ex44]
  have q45 : ∀ hp, E Try.prog Y0 17 [] hp = some (.v (.bool true), hp, none) := fun hp => works_is
  obtain rfl := inj_ok h
  simp [ex1, conv_5_3More12, ex2, ex3, ex4, ex5, ex5a, ex6, shape9, pqSlice, ex7, ex8, ex9, ex10, ex11, abin_sadd ex11a, ex12, ex13, abin_sadd ex13a, conv_63_3More12, ex14, ex15, ex16, ex17, ex18, ex19, ex20, ex21, ex22, e25, e28, e32, e36, ex37, ex38, ex39, ex40, ex41, ex42, ex43, ex44, q45]
end Go.Proofs.Ytmnmfmghmenkkaa
