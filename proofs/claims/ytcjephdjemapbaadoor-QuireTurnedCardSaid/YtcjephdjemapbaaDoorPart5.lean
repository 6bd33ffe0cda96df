/-
  kind,creases and Creases,by the pure evaluator.
  Contracts that were walked by hand,in the form of those that are printed.
  has,same,alike,Equal
  Printed by wip/tools/walk.py. Conditions: none; definitions and lemmas.
  The pen's step; the length of a number in bits.
  walks,Pages
  Printed by wip/tools/walk.py. Conditions: none; definitions and lemmas.
  What the small functions compute: has,same,alike,Equal.
  the reference's functions,and small ones
  Printed by wip/tools/walk.py. Conditions: none; definitions and lemmas.
  Conditions: none; lemmas.
-/
import Derived.Test.YtcjephdjemapbaaDoorPart4
set_option linter.unusedSimpArgs false
set_option linter.unusedVariables false
namespace Go.Proofs.YtcjephdjemapbaaDoor
open Go.Abs Go.Pur
set_option maxRecDepth 100000
attribute [local simp] Go.Pur.EK_region Go.Pur.EK_seq Go.Pur.EK_cond Go.Pur.EK_block Go.Pur.EK_blk Go.Pur.EK_loop Go.Pur.EK_exit EK.ex Go.Pur.EK_ret Go.Pur.EK_skip Go.Pur.EK_nil Go.Pur.EO_cons Go.Pur.EO_nil Go.Pur.EO1_true Go.Pur.EO1_false Go.Pur.EO2_some Go.Pur.EO3_some Go.Pur.EB_true Go.Pur.EB_false Go.Pur.pwanted Go.Pur.poper Go.Pur.pq Go.Pur.pev Go.Pur.look Go.Pur.pputT Go.Pur.isAssign Go.Pur.drOf Go.Pur.pinit Go.Abs.Tr.get_set Go.Pur.lget Go.Pur.pvOf_int Go.Pur.pvOf_bool Go.Pur.pvOf_str Go.Pur.pvOf_nil Go.Pur.rdv_ak Go.Pur.notOwn_ak Go.Pur.prt_ak Go.Pur.loose_ak Go.Pur.rdv_own Go.Pur.rdv_fz Go.Pur.rdv_bor Go.Pur.rdv_rf Go.Pur.rdv_pt Go.Pur.rdv_v Go.Pur.rdv_a Go.Pur.rdv_t Go.Pur.rdv_r Go.Pur.rdv_p Go.Pur.rdv_s Go.Pur.rdv_f Go.Pur.pbin Go.Pur.plen Go.Pur.pload Go.Pur.ppart Go.Pur.idxAddr Go.Pur.pcond Nat.blt Go.Pur.goInt_eq Go.Pur.prun_not Go.Pur.prun_neg Go.Pur.mayLoad Go.Pur.ER_ret Go.Pur.ER_normal Go.Pur.presL Go.Pur.presOne Go.Pur.moved Go.Pur.stor Go.Pur.okDrop Go.Pur.settle_v Go.Pur.settle_l Go.Pur.settle_a Go.Pur.settle_p Go.Pur.settle_f Go.Pur.noref_v Go.Pur.noref_fz Go.Pur.noref_a Go.Pur.norefs_nil Go.Pur.norefs_cons Go.Pur.pclose Go.Pur.given Go.Pur.lowOf Go.Pur.dropB Y0_keep Go.Pur.pevParts Go.Pur.stors Go.Pur.pvCells pvCells.go Go.Abs.vcells Go.Pur.pfill Go.Pur.reps Go.Pur.zipParts Go.Pur.ownFz Go.Pur.pcells Go.Pur.cellOK Go.Pur.one Go.Pur.psrcLen Go.Pur.srcFits Go.Pur.psrc Go.Pur.takeP Go.Pur.pgrow Go.Pur.take Go.Pur.getPl Go.Pur.setPl Go.Pur.mapL Go.Pur.plEq Go.Pur.elder Go.Pur.isList Go.Pur.lowP Go.Pur.pevs Go.Pur.frzs Go.Pur.addP Go.Pur.partAt Go.Pur.ble_lim24 Go.Pur.killV_v Go.Pur.killV_a Go.Pur.killV_t Go.Pur.killV_f Go.Pur.killV_i Go.Pur.killV_p Go.Pur.killV_s Go.Pur.killV_un Go.Pur.killV_dead Go.Pur.killV_lfz Go.Pur.killV_lbor Go.Pur.killV_lown Go.Pur.killV_rfz Go.Pur.killV_rbor Go.Pur.killV_lak Go.Pur.killV_rak Go.Pur.frzV_v Go.Pur.frzV_a Go.Pur.frzV_t Go.Pur.frzV_f Go.Pur.frzV_i Go.Pur.frzV_p Go.Pur.frzV_s Go.Pur.frzV_un Go.Pur.frzV_dead Go.Pur.frzV_lfz Go.Pur.frzV_lbor Go.Pur.frzV_lown Go.Pur.frzV_rfz Go.Pur.frzV_rbor Go.Pur.frzV_lak Go.Pur.frzV_rak Go.Pur.killCell_v Go.Pur.killCell_a Go.Pur.killCell_t Go.Pur.killCell_f Go.Pur.killCell_i Go.Pur.killCell_p Go.Pur.killCell_s Go.Pur.killCell_un Go.Pur.killCell_dead Go.Pur.killCell_lfz Go.Pur.killCell_lbor Go.Pur.killCell_lown Go.Pur.killCell_rfz Go.Pur.killCell_rbor Go.Pur.killCell_lak Go.Pur.killCell_rak Go.Pur.killV_lrf Go.Pur.killV_lpt Go.Pur.killV_rpt Go.Pur.frzV_lrf Go.Pur.frzV_lpt Go.Pur.frzV_rpt Go.Pur.killCell_lrft Go.Pur.killCell_lptt Go.Pur.killCell_rptt Go.Pur.killCell_lrfc Go.Pur.killCell_lptc Go.Pur.killCell_rptc Go.Pur.argv_lak Go.Pur.argv_rak Go.Pur.argv_v Go.Pur.argv_a Go.Pur.argv_p Go.Pur.argv_f Go.Pur.argv_fz Go.Pur.argv_bor Go.Pur.argv_rf Go.Pur.argv_pt Go.Pur.argv_rc Go.Pur.argv_own Go.Pur.mayTurn_none Go.Pur.argvs Go.Pur.pcallOp Go.Pur.firm Go.Pur.lowB Go.Pur.refsTo_v Go.Pur.refsTo_l Go.Pur.refsTo_p Go.Pur.refsTo_s Go.Pur.refsTo_a Go.Pur.refsTo_dead Go.Pur.refsTo_nil Go.Pur.refsTo_cons Go.Pur.isOwn_lak Go.Pur.ownFz_lak Go.Pur.evSafe Go.Pur.pskip Go.Abs.plain Go.Pur.pnewBlk Go.Pur.fldAddr Go.Pur.isOwn Go.Pur.pput Go.Pur.spliceP Go.Pur.notOwn_fz Go.Pur.notOwn_bor Go.Pur.notOwn_own Go.Pur.notOwn_rf Go.Pur.notOwn_pt Go.Pur.prt_fz Go.Pur.prt_bor Go.Pur.prt_own Go.Pur.prt_rf Go.Pur.prt_pt Go.Pur.freeze Go.Pur.presM Go.Pur.settles Go.Pur.abin_and Go.Pur.abin_or Go.Pur.abin_andNot Go.Pur.abin_mul Go.Pur.abin_shr Go.Pur.abin_shl Go.Pur.abin_add Go.Pur.abin_sub Go.Pur.abin_eql Go.Pur.abin_neq Go.Pur.abin_lss Go.Pur.abin_leq Go.Pur.abin_gtr Go.Pur.abin_geq Go.Pur.hows Go.Pur.pcallIn Y0_how Y0_part howOf partOf Go.Pur.rdv_mown Go.Pur.rdv_mfz Go.Pur.rdv_mbor Go.Pur.rdv_mrf Go.Pur.killV_mown Go.Pur.killV_mfz Go.Pur.killV_mbor Go.Pur.killV_mrf Go.Pur.frzV_mown Go.Pur.frzV_mfz Go.Pur.frzV_mbor Go.Pur.frzV_mrf Go.Pur.killCell_mown Go.Pur.killCell_mfz Go.Pur.killCell_mbor Go.Pur.killCell_mrf Go.Pur.argv_mfz Go.Pur.argv_mbor Go.Pur.argv_mrf Go.Pur.settle_m Go.Pur.kls_v Go.Pur.kls_l Go.Pur.kls_a Go.Pur.kls_t Go.Pur.kls_r Go.Pur.kls_p Go.Pur.kls_s Go.Pur.kls_f Go.Pur.kls_i Go.Pur.kls_it Go.Pur.kls_un Go.Pur.kls_dead Go.Pur.kls_mown Go.Pur.kls_mrf Go.Pur.kls_mbor Go.Pur.kls_mfz Go.Pur.fzOf Go.Pur.takable Go.Pur.mapHere Go.Pur.mapOwn Go.Pur.mapTo Go.Pur.flat Go.Pur.toPlain toPlain.go Go.Pur.ofFlat Go.Pur.ofPair Go.Pur.mapEs Go.Pur.plook Go.Abs.lookRes Y0_mv mvOf Go.Pur.mvBlk Go.Pur.premv Y0_fzm fzmOf Go.Pur.poperX Go.Pur.pconv Go.Pur.mvOp
def tzN (s : Nat) : Nat := ((List.range 7).find? fun i => s.testBit i).getD 64
def tzI (s : Int) : Int := shrI .u64 (mulI .u64 (andI .u64 s (IntKind.u64.wrap (0 - s))) 285870213051353865) 58
theorem tz_tab {s : Nat} (h : s < 65) (h0 : s ≠ 0) : ∃ i,tzI s = (i : Nat) ∧ i < 64 ∧ tab64[i]? = some (tzN s : Int) ∧ tzN s < 7 ∧ 2 ^ tzN s ≤ s ∧ shrI .i64 s (tzN s) = ((s / 2 ^ tzN s : Nat) : Int) := by
 have : (List.range 65).all (fun s => decide (s = 0) || (decide (tzI s = ((tzI s).toNat : Nat)) && decide ((tzI s).toNat < 64) && decide (tab64[(tzI s).toNat]? = some (tzN s : Int)) && decide (tzN s < 7) && decide (2 ^ tzN s ≤ s) && decide (shrI .i64 s (tzN s) = ((s / 2 ^ tzN s : Nat) : Int)))) = true := by kernel_rfl
 rw [List.all_eq_true] at this
 have := this s (List.mem_range.2 h)
 simp only [Bool.or_eq_true,Bool.and_eq_true,decide_eq_true_eq] at this
 rcases this with h | h
 ·exact absurd h h0
 ·obtain ⟨⟨⟨⟨⟨a,b⟩,c⟩,d⟩,e⟩,f⟩ := h
  exact ⟨_,a,b,c,d,e,f⟩
theorem glob1 : Y0.glob[1]? = some (tab64.map fun n => PV.v (.int .u8 n)) := rfl
abbrev wv (n : Nat) : PV := .v (.int .u64 n)
theorem tz64_is {s : Nat} {hp : List (Option (List PV))} (h : s < 65) (h0 : s ≠ 0) : E Tryd.prog Y0 102 [wv s] hp = some (iv (tzN s),hp,none) := by
 obtain ⟨i,a,b,c,g,_⟩ := tz_tab h h0
 rw [E_bodyN 1 body102 rfl (by decide) rfl]
 simp only [Tryd.f102,Option.get_some]
 simp [tzI] at a
 have h1 : IntKind.i64.wrap (tzN s : Int) = tzN s := wrap64 (by omega) (by omega)
 have h2 : Nat.ble (i + 1) tab64.length = true := ble_true (show i + 1 ≤ 64 by omega)
 simp [keep102,h0,a,intIn_nat b,glob1,c,shape125,row5,conv53,h1,h2]
theorem tz_is {s : Nat} {hp : List (Option (List PV))} (h : s < 65) (h0 : s ≠ 0) : E Tryd.prog Y0 87 [wv s] hp = some (iv (tzN s),hp,none) := by
 rw [E_bodyN 1 body87 rfl (by decide) rfl]
 simp only [Tryd.f87,Option.get_some]
 simp [keep87,tz64_is h h0]
def kindL (l : List UInt8) (i : Nat) : UInt8 := if ((l.getD (l.length - 1 - tzN (i + 1)) 0 == 111) == ((i + 1) / 2 ^ tzN (i + 1) % 4 == 1)) = true then 118 else 104
theorem conv399 {z : Int} : prunP Tryd.prog (convert 3 99 (.int .i64 z)) = some (.int .u64 (IntKind.u64.wrap z)) := by kernel_rfl
theorem wrapu64 {n : Nat} (h : n < 18446744073709551616) : IntKind.u64.wrap (n : Int) = n := by
 simp [IntKind.wrap,IntKind.signed,IntKind.bits]
 omega
theorem kind_is {l : List UInt8} {i : Nat} {hp : List (Option (List PV))} (hl : l.length ≤ 6) (hi : i + 1 < 2 ^ l.length) : E Tryd.prog Y0 84 [sv (bs l),iv i] hp = some (uv (kindL l i).toNat,hp,none) := by
 have h64 : 2 ^ l.length ≤ 64 := Nat.pow_le_pow_right (n := 2) (by decide) hl
 have hk : kindL l i = if ((l.getD (l.length - 1 - tzN (i + 1)) 0 == 111) == ((i + 1) / 2 ^ tzN (i + 1) % 4 == 1)) = true then 118 else 104 := rfl
 have w1 := wrap_nat (show i < 1000000000000 by omega)
 generalize kindL l i = K at hk ⊢
 obtain ⟨S,hS⟩ : ∃ S,i + 1 = S := ⟨_,rfl⟩
 rw [hS] at hi hk w1
 obtain ⟨_,_,_,_,t1,t2,t3⟩ := tz_tab (s := S) (by omega) (by omega)
 have htz := fun hp => @tz_is S hp (by omega) (by omega)
 generalize tzN S = m at t1 t2 t3 htz hk
 have hml : m < l.length := (Nat.pow_lt_pow_iff_right (a := 2) (by decide)).1 (Nat.lt_of_le_of_lt t2 hi)
 have w2 := @wrapu64 S (by omega)
 have w3 : IntKind.i64.wrap ((l.length : Int) - 1) = l.length - 1 := wrap64 (by omega) (by omega)
 obtain ⟨q,hq⟩ : ∃ q,l.length - 1 - m = q := ⟨_,rfl⟩
 rw [hq] at hk
 have w4 : IntKind.i64.wrap ((l.length : Int) - 1 - m) = (q : Int) := by rw [wrap64 (by omega) (by omega)]; omega
 have hidx : q < l.length := by omega
 have q1 : pqIndex Tryd.prog 9 (sv (bs l)) (.int .i64 (q : Int)) = some (uv (l[q]).toNat) := by
  have := str_index (P := Tryd.prog) (t := 9) Tryd.underlying9 (s := bs l) (k := .i64) (i := q) (by rw [bs_size]; exact hidx)
  simp only [pqIndex,shape9,this]
  rfl
 have hg : l.getD q 0 = l[q] := by simp [List.getD_eq_getElem?_getD,hidx]
 rw [hg] at hk
 generalize l[q] = c at q1 hk
 have n1 : ((c.toNat : Int) = 111) ↔ c = 111 := by
  rw [show (111 : Int) = (((111 : UInt8).toNat : Nat) : Int) from rfl,Int.ofNat_inj]; exact UInt8.toNat_inj
 generalize S / 2 ^ m = d at t3 hk
 obtain ⟨e,he⟩ : ∃ e,d % 4 = e := ⟨_,rfl⟩
 rw [he] at hk
 have t4 : ((d : Nat) : Int).tmod 4 = (e : Int) := by rw [← he]; rfl
 rw [E_bodyN 2 body84 rfl (by decide) rfl]
 simp only [Tryd.f84,Option.get_some]
 simp only [wv] at htz
 by_cases e1 : c = 111
 ·have e1' := n1.2 e1
  by_cases e2 : e = 1
  ·have e2' : (e : Int) = 1 := by omega
   have : K = 118 := by rw [hk,e1,e2]; rfl
   subst this
   simp [keep84,shape9,bs_size,w1,w2,w3,w4,conv399,htz,q1,t3,t4,abin_rem,e1',e2',bool_eql]
  ·have e2' : ¬ (e : Int) = 1 := by omega
   have : K = 104 := by rw [hk,e1,show (e == 1) = false by simp [e2]]; rfl
   subst this
   simp [keep84,shape9,bs_size,w1,w2,w3,w4,conv399,htz,q1,t3,t4,abin_rem,e1',e2',bool_eql]
 ·have e1' : ¬ (c.toNat : Int) = 111 := fun h => e1 (n1.1 h)
  by_cases e2 : e = 1
  ·have e2' : (e : Int) = 1 := by omega
   have : K = 104 := by rw [hk,e2,show (c == 111) = false by simp [e1]]; rfl
   subst this
   simp [keep84,shape9,bs_size,w1,w2,w3,w4,conv399,htz,q1,t3,t4,abin_rem,e1',e2',bool_eql]
  ·have e2' : ¬ (e : Int) = 1 := by omega
   have : K = 118 := by rw [hk,show (c == 111) = false by simp [e1],show (e == 1) = false by simp [e2]]; rfl
   subst this
   simp [keep84,shape9,bs_size,w1,w2,w3,w4,conv399,htz,q1,t3,t4,abin_rem,e1',e2',bool_eql]
theorem pbytes_s {P : Program} {Y : Pol} {f : FuncId} {src dst e : TypeId} {x : Operand} {σ : St} {b off n cap : Nat} {cs r : List PV} {ns : List Int} (hs : P.underlying src = some (.slice e)) (he : P.underlying e = some (.int .u8)) (hd : P.underlying dst = some .string)
  (hx : pev Y f σ x = some (.s b off n cap)) (hb : σ.hp[b]? = some (some cs)) (ht : takeP n (cs.drop off) = some r) (hok : r.all cellOK = true) (hy : bytesP r = some ns) (hnil : prunP P (convert src dst (.slice none 0 0)) = some (.string ByteArray.empty)) :
  pbytes P Y f none src dst x σ = some (.v (.string (strOfNums ns))) := by
 unfold pbytes
 rw [hs,hd]
 simp only [mayConv,Bool.true_or]
 rw [he,hx]
 simp only [isList,psrcLen]
 cases n with
 | zero =>
  have : r = [] := by
   have h1 := (takeP_some ht).1
   simpa using h1
  subst this
  have : ns = [] := by simpa [bytesP] using hy.symm
  subst this
  simp only [hnil]
  rfl
 | succ n =>
  simp only [psrc,hb,Nat.mul_one,ht,hok,hy]
theorem bytesP_map : ∀ {m : List UInt8},bytesP (m.map fun c => uv c.toNat) = some (m.map fun c => (c.toNat : Int))
 | [] => rfl
 | c :: m => by simp [bytesP,bytesP_map (m := m)]
theorem strOfNums_map {m : List UInt8} : strOfNums (m.map fun c => (c.toNat : Int)) = bs m := by
 unfold strOfNums
 congr 1
 rw [List.map_map]
 refine congrArg List.toArray ((List.map_congr_left fun c _ => ?_).trans (List.map_id _))
 simp
theorem conv799_nil : prunP Tryd.prog (convert 79 9 (.slice none 0 0)) = some (.string ByteArray.empty) := by kernel_rfl
def creasesL (l : List UInt8) : List UInt8 := (List.range (2 ^ l.length - 1)).map (kindL l)
theorem creases_is {l : List UInt8} {hp : List (Option (List PV))} (hl : l.length ≤ 6) : E Tryd.prog Y0 57 [sv (bs l)] hp = some (sv (bs (creasesL l)),hp,none) := by
 have h64 : 2 ^ l.length ≤ 64 := Nat.pow_le_pow_right (n := 2) (by decide) hl
 have h1 : 1 ≤ 2 ^ l.length := Nat.one_le_two_pow
 obtain ⟨N,hN⟩ : ∃ N,2 ^ l.length - 1 = N := ⟨_,rfl⟩
 have w1 : IntKind.i64.wrap (shlI .i64 1 l.length - 1) = N := by
  have : ∀ k,k ≤ 6 → shlI .i64 1 (k : Nat) = ((2 ^ k : Nat) : Int) := by decide
  rw [this _ hl,wrap64 (by omega) (by omega)]
  omega
 rw [E_bodyN 1 body57 rfl (by decide) rfl]
 simp only [Tryd.f57,Option.get_some]
 have k1 : (Nat.ble N N && Nat.ble (N * 3) limit) = true := by rw [show Nat.ble (N * 3) limit = true from ble_true (by unfold limit; omega),show Nat.ble N N = true from ble_true (Nat.le_refl _)]; rfl
 simp [keep57,shape9,shape79,bs_size,w1,zero5,by5,k1]
 refine loop_ind (fun m σ => ∃ (j : Nat) (pad : List PV) (ts : Tr PV) (w : Option Nat),m + j = N ∧ pad.length + j = N ∧ (w = none ∨ ∃ k,w = some k ∧ hp.length ≤ k) ∧ σ = ⟨[],ts,hp ++ [some (((List.range j).map (kindL l)).map (fun c => uv c.toNat) ++ pad)],w⟩ ∧ ts.get 0 = some (sv (bs l)) ∧ ts.get 3 = some (.s hp.length 0 N N) ∧ ts.get 11 = some (iv N) ∧ ts.get 12 = some (iv j)) (n0 := N) ?_ ?_
 ·exact ⟨0,reps [.v (.int .u8 0)] N,_,none,rfl,by simp [reps_len1],.inl rfl,by simp; rfl,by simp,by simp,by simp,by simp⟩
 ·rintro m σ ⟨j,pad,ts,w,hm,hpad,hw,rfl,g0,g3,g11,g12⟩ ih
  rcases Nat.lt_or_ge j N with hj | hj
  ·have hjj : (j : Int) < N := by omega
   have w3 := wrap_nat (show j < 1000000000000 by omega)
   have kd := fun hp => @kind_is l j hp hl (by omega)
   have sp := fun vs h => @splice_app j (((List.range j).map (kindL l)).map (fun c => uv c.toNat)) vs pad (by simp) h
   have hpad2 : 1 ≤ pad.length := by omega
   have r1 : Nat.ble (j + 1) N = true := ble_true hj
   have fin := fun (ts' : Tr PV) (w' : Option Nat) (hw' : w' = none ∨ ∃ k,w' = some k ∧ hp.length ≤ k) (a0 : ts'.get 0 = some (sv (bs l))) (a3 : ts'.get 3 = some (.s hp.length 0 N N)) (a11 : ts'.get 11 = some (iv N)) (a12 : ts'.get 12 = some (iv ((j : Int) + 1))) =>
    ih (m - 1) ⟨[],ts',hp ++ [some (((List.range j).map (kindL l)).map (fun c => uv c.toNat) ++ uv (kindL l j).toNat :: pad.tail)],w'⟩ (by omega) ⟨j + 1,pad.tail,ts',w',by omega,by rw [List.length_tail]; omega,hw',by simp [List.range_succ],a0,a3,a11,by rw [a12]; simp⟩
   clear ih
   simp [-spliceP,-List.map_map,keep57,shape9,shape79,g0,g3,g11,g12,hjj,w3,kd,intIn_nat hj,r1,sz5,sp,hpad2,gAt0,sAt0]
   exact fin _ _ (by rcases hw with rfl | ⟨k,rfl,hk⟩ <;> simp <;> exact Nat.le_min.2 ⟨hk,Nat.le_refl _⟩) (by simp [g0]) (by simp [g3]) (by simp [g11]) (by simp)
  ·obtain rfl : j = N := by omega
   have : pad = [] := List.eq_nil_of_length_eq_zero (by omega)
   subst this
   have hcl : ((List.range j).map (kindL l)).map (fun c => uv c.toNat) = (creasesL l).map fun c => uv c.toNat := by rw [creasesL,hN]
   have pb := fun x (σ : St) hx (hb : σ.hp[hp.length]? = some (some ((creasesL l).map fun c => uv c.toNat))) => pbytes_s (P := Tryd.prog) (Y := Y0) (f := 57) (src := 79) (dst := 9) (e := 5) (x := x) (σ := σ) (b := hp.length) (off := 0) (n := j) (cap := j) (r := (creasesL l).map fun c => uv c.toNat) Tryd.underlying79 Tryd.underlying5 Tryd.underlying9 hx hb (takeP_full (by simp [creasesL,hN])) (by rw [List.all_eq_true]; intro v hv; obtain ⟨i,_,rfl⟩ := List.mem_map.1 hv; rfl) bytesP_map conv799_nil
   rw [strOfNums_map] at pb
   rw [List.append_nil,hcl]
   simp [-List.map_map,keep57,shape9,shape79,g0,g3,g11,g12]
   rw [pb _ _ (by simp [keep57]) (by simp)]
   have k3 : Nat.ble (hp.length + 1) hp.length = false := by rw [nble]; simp
   have k8 : ∀ k,hp.length ≤ k → Nat.ble (k + 1) hp.length = false := fun k hk => by rw [nble]; simp; omega
   simp [keep57]
   rcases hw with rfl | ⟨k,rfl,hk⟩
   ·simp
   ·simp [k8 k hk]
end Go.Proofs.YtcjephdjemapbaaDoor
set_option linter.unusedSimpArgs false
set_option linter.unusedVariables false
namespace Go.Proofs.YtcjephdjemapbaaDoor
open Go.Abs Go.Pur
set_option maxRecDepth 100000
def creasesO (l : List UInt8) : Option (List UInt8) := if l.length ≤ 6 then some (creasesL l) else none
theorem f57_is {p0 : List UInt8} {hp : List (Option (List PV))} {r : List UInt8} (h : creasesO p0 = some r) : E Tryd.prog Y0 57 [.v (.string (bs p0))] hp = some (.v (.string (bs r)),hp,none) := by
 unfold creasesO at h
 split at h
 ·rename_i hl
  obtain rfl := inj_ok h
  exact creases_is hl
 ·cases h
def pileO (l : List UInt8) : Option (Ck × List Int) := if l.length ≤ 6 then some (pileC l,pileL l) else none
theorem f55_is {p0 : List UInt8} {hp : List (Option (List PV))} {r : Ck × List Int} (h : pileO p0 = some r) : E Tryd.prog Y0 55 [.v (.string (bs p0))] hp = some (.l .fz r.1 r.2.length (r.2.map iv),hp,none) := by
 unfold pileO at h
 split at h
 ·rename_i hl
  obtain rfl := inj_ok h
  exact pile_is hl
 ·cases h
def tzO (z : Int) : Option Int := match z with
 | .ofNat s => if 0 < s ∧ s < 65 then some (tzN s) else none
 | .negSucc _ => none
theorem f87_is {p0 : Int} {hp : List (Option (List PV))} {r : Int} (h : tzO p0 = some r) : E Tryd.prog Y0 87 [kv .u64 p0] hp = some (iv r,hp,none) := by
 cases p0 with
 | negSucc k => cases h
 | ofNat s =>
  unfold tzO at h
  simp only at h
  split at h
  ·rename_i hl
   obtain rfl := inj_ok h
   exact tz_is hl.2 (by omega)
  ·cases h
theorem f60_is {p0 : List UInt8} {most : Nat} {a b : UInt8} {x : Int} {hp : List (Option (List PV))} (h : lettersE p0 most a b = x) (hm : most < 1000 := by decide) (ha : a.toNat < 128 := by decide) (hb : b.toNat < 128 := by decide) : E Tryd.prog Y0 60 [.v (.string (bs p0)),iv most,.v (.string (bs [a,b]))] hp = some (iv x,hp,none) := by
 subst h
 exact written_is hm ha hb
theorem f27_is {p0 : List UInt8} {x : Int} {hp : List (Option (List PV))} (h : checkE p0 = x) : E Tryd.prog Y0 27 [.v (.string (bs p0))] hp = some (iv x,hp,none) := by
 subst h
 exact check_is
end Go.Proofs.YtcjephdjemapbaaDoor
set_option linter.unusedSimpArgs false
set_option linter.unusedVariables false
namespace Go.Proofs.YtcjephdjemapbaaDoor
open Go.Abs Go.Pur
set_option maxRecDepth 100000
set_option maxHeartbeats 2000000
attribute [local simp] Go.Pur.EK_region Go.Pur.EK_seq Go.Pur.EK_cond Go.Pur.EK_block Go.Pur.EK_blk Go.Pur.EK_loop Go.Pur.EK_exit EK.ex Go.Pur.EK_ret Go.Pur.EK_skip Go.Pur.EK_nil Go.Pur.EO_cons Go.Pur.EO_nil Go.Pur.EO1_true Go.Pur.EO1_false Go.Pur.EO2_some Go.Pur.EO3_some Go.Pur.EB_true Go.Pur.EB_false Go.Pur.pwanted Go.Pur.poper Go.Pur.pq Go.Pur.pev Go.Pur.look Go.Pur.pputT Go.Pur.isAssign Go.Pur.drOf Go.Pur.pinit Go.Abs.Tr.get_set Go.Pur.lget Go.Pur.pvOf_int Go.Pur.pvOf_bool Go.Pur.pvOf_str Go.Pur.pvOf_nil Go.Pur.rdv_ak Go.Pur.notOwn_ak Go.Pur.prt_ak Go.Pur.loose_ak Go.Pur.rdv_own Go.Pur.rdv_fz Go.Pur.rdv_bor Go.Pur.rdv_rf Go.Pur.rdv_pt Go.Pur.rdv_v Go.Pur.rdv_a Go.Pur.rdv_t Go.Pur.rdv_r Go.Pur.rdv_p Go.Pur.rdv_s Go.Pur.rdv_f Go.Pur.pbin Go.Pur.plen Go.Pur.pload Go.Pur.ppart Go.Pur.idxAddr Go.Pur.pcond Nat.blt Go.Pur.goInt_eq Go.Pur.prun_not Go.Pur.prun_neg Go.Pur.mayLoad Go.Pur.ER_ret Go.Pur.ER_normal Go.Pur.presL Go.Pur.presOne Go.Pur.moved Go.Pur.stor Go.Pur.okDrop Go.Pur.settle_v Go.Pur.settle_l Go.Pur.settle_a Go.Pur.settle_p Go.Pur.settle_f Go.Pur.noref_v Go.Pur.noref_fz Go.Pur.noref_a Go.Pur.norefs_nil Go.Pur.norefs_cons Go.Pur.pclose Go.Pur.given Go.Pur.dropB Y0_keep Go.Pur.pevParts Go.Pur.stors Go.Pur.pvCells pvCells.go Go.Abs.vcells Go.Pur.pfill Go.Pur.reps Go.Pur.zipParts Go.Pur.ownFz Go.Pur.pcells Go.Pur.cellOK Go.Pur.one Go.Pur.psrcLen Go.Pur.srcFits Go.Pur.psrc Go.Pur.takeP Go.Pur.pgrow Go.Pur.take Go.Pur.getPl Go.Pur.setPl Go.Pur.mapL Go.Pur.plEq Go.Pur.elder Go.Pur.isList Go.Pur.lowP Go.Pur.pevs Go.Pur.frzs Go.Pur.addP Go.Pur.partAt Go.Pur.ble_lim24 Go.Pur.killV_v Go.Pur.killV_a Go.Pur.killV_t Go.Pur.killV_f Go.Pur.killV_i Go.Pur.killV_p Go.Pur.killV_s Go.Pur.killV_un Go.Pur.killV_dead Go.Pur.killV_lfz Go.Pur.killV_lbor Go.Pur.killV_lown Go.Pur.killV_rfz Go.Pur.killV_rbor Go.Pur.killV_lak Go.Pur.killV_rak Go.Pur.frzV_v Go.Pur.frzV_a Go.Pur.frzV_t Go.Pur.frzV_f Go.Pur.frzV_i Go.Pur.frzV_p Go.Pur.frzV_s Go.Pur.frzV_un Go.Pur.frzV_dead Go.Pur.frzV_lfz Go.Pur.frzV_lbor Go.Pur.frzV_lown Go.Pur.frzV_rfz Go.Pur.frzV_rbor Go.Pur.frzV_lak Go.Pur.frzV_rak Go.Pur.killCell_v Go.Pur.killCell_a Go.Pur.killCell_t Go.Pur.killCell_f Go.Pur.killCell_i Go.Pur.killCell_p Go.Pur.killCell_s Go.Pur.killCell_un Go.Pur.killCell_dead Go.Pur.killCell_lfz Go.Pur.killCell_lbor Go.Pur.killCell_lown Go.Pur.killCell_rfz Go.Pur.killCell_rbor Go.Pur.killCell_lak Go.Pur.killCell_rak Go.Pur.killV_lrf Go.Pur.killV_lpt Go.Pur.killV_rpt Go.Pur.frzV_lrf Go.Pur.frzV_lpt Go.Pur.frzV_rpt Go.Pur.killCell_lrft Go.Pur.killCell_lptt Go.Pur.killCell_rptt Go.Pur.killCell_lrfc Go.Pur.killCell_lptc Go.Pur.killCell_rptc Go.Pur.argv_lak Go.Pur.argv_rak Go.Pur.argv_v Go.Pur.argv_a Go.Pur.argv_p Go.Pur.argv_f Go.Pur.argv_fz Go.Pur.argv_bor Go.Pur.argv_rf Go.Pur.argv_pt Go.Pur.argv_rc Go.Pur.argv_own Go.Pur.mayTurn_none Go.Pur.argvs Go.Pur.pcallOp Go.Pur.firm Go.Pur.refsTo_v Go.Pur.refsTo_l Go.Pur.refsTo_p Go.Pur.refsTo_s Go.Pur.refsTo_a Go.Pur.refsTo_dead Go.Pur.refsTo_nil Go.Pur.refsTo_cons Go.Pur.isOwn_lak Go.Pur.ownFz_lak Go.Pur.evSafe Go.Pur.pskip Go.Abs.plain Go.Pur.pnewBlk Go.Pur.fldAddr Go.Pur.isOwn Go.Pur.pput Go.Pur.notOwn_fz Go.Pur.notOwn_bor Go.Pur.notOwn_own Go.Pur.notOwn_rf Go.Pur.notOwn_pt Go.Pur.prt_fz Go.Pur.prt_bor Go.Pur.prt_own Go.Pur.prt_rf Go.Pur.prt_pt Go.Pur.freeze Go.Pur.presM Go.Pur.settles Go.Pur.abin_and Go.Pur.abin_or Go.Pur.abin_andNot Go.Pur.abin_mul Go.Pur.abin_shr Go.Pur.abin_shl Go.Pur.abin_add Go.Pur.abin_sub Go.Pur.abin_eql Go.Pur.abin_neq Go.Pur.abin_lss Go.Pur.abin_leq Go.Pur.abin_gtr Go.Pur.abin_geq Go.Pur.hows Go.Pur.pcallIn Y0_how Y0_part howOf partOf Go.Pur.rdv_mown Go.Pur.rdv_mfz Go.Pur.rdv_mbor Go.Pur.rdv_mrf Go.Pur.killV_mown Go.Pur.killV_mfz Go.Pur.killV_mbor Go.Pur.killV_mrf Go.Pur.frzV_mown Go.Pur.frzV_mfz Go.Pur.frzV_mbor Go.Pur.frzV_mrf Go.Pur.killCell_mown Go.Pur.killCell_mfz Go.Pur.killCell_mbor Go.Pur.killCell_mrf Go.Pur.argv_mfz Go.Pur.argv_mbor Go.Pur.argv_mrf Go.Pur.settle_m Go.Pur.kls_v Go.Pur.kls_l Go.Pur.kls_a Go.Pur.kls_t Go.Pur.kls_r Go.Pur.kls_p Go.Pur.kls_s Go.Pur.kls_f Go.Pur.kls_i Go.Pur.kls_it Go.Pur.kls_un Go.Pur.kls_dead Go.Pur.kls_mown Go.Pur.kls_mrf Go.Pur.kls_mbor Go.Pur.kls_mfz Go.Pur.fzOf Go.Pur.takable Go.Pur.mapHere Go.Pur.mapOwn Go.Pur.mapTo Go.Pur.flat Go.Pur.toPlain toPlain.go Go.Pur.ofFlat Go.Pur.ofPair Go.Pur.mapEs Go.Pur.plook Go.Abs.lookRes Y0_mv mvOf Go.Pur.mvBlk Go.Pur.premv Y0_fzm fzmOf Go.Pur.poperX Go.Pur.pconv Go.Pur.mvOp keep22 keep39 keep70 keep71 keep72 sz3 by3 row3 zero3 sz4 by4 row4 zero4 sz5 by5 row5 zero5 sz9 by9 row9 shape9 zero9 sz21 by21 row21 zero21 sz23 by23 row23 shape23 zero23 sz24 by24 row24 zero24 sz38 by38 row38 shape38 zero38 sz47 by47 row47 shape47 zero47 parts47 sz51 by51 row51 zero51 sz54 by54 row54 shape54 zero54 sz55 by55 row55 shape55 zero55 sz58 by58 row58 shape58 zero58 sz60 by60 row60 zero60 sz63 by63 row63 shape63 zero63 sz73 by73 row73 shape73 zero73 parts73 sz79 by79 row79 shape79 zero79 sz81 by81 row81 shape81 zero81 parts81 sz86 by86 row86 shape86 parts86 sz90 by90 row90 zero90 sz92 by92 row92 zero92 sz96 by96 row96 zero96 parts96 field96_0 field96_1 sz99 by99 row99 zero99 sz104 by104 row104 zero104 sz106 by106 row106 zero106 parts106 field106_0 field106_1 sz119 by119 row119 zero119 sz123 by123 row123 zero123 sz124 by124 row124 shape124 zero124 parts124 sz125 by125 row125 shape125 zero125 parts125 sz126 by126 row126 shape126 parts126 sz128 by128 row128 zero128 parts128 field128_0 field128_1 sz129 by129 row129 shape129 zero129 parts129 sz133 by133 row133 zero133 Go.Pur.bs_size Go.Pur.gAt Go.Pur.gAt0 Go.Pur.sAt Go.Pur.sAt0 Go.Pur.optPlain Go.Pur.rows_len Go.Pur.noMaker_eq Go.Abs.kindOf Go.Pur.vlOf Go.Pur.abin_rem Go.Pur.abin_quo Go.Pur.mayTurn_none Go.Pur.lowOf_none Go.Pur.partAt Go.Pur.rows_nil Go.Pur.rows_cons Go.Pur.ble_add Go.Pur.ble_add0 Go.Pur.ble_same Go.Pur.toPlain toPlain.go Go.Pur.intIn2_0 Go.Pur.intIn2_1 Go.Pur.ble12 Go.Pur.ble22 Go.Pur.tv Go.Pur.lv Go.Pur.max_int Go.Pur.min_int Go.Pur.pplains Go.Pur.ak_true Go.Pur.ak_false Go.Pur.apartP Go.Pur.beq_add Go.Pur.beq_add0 Go.Pur.beq_add1 Go.Pur.argv_s Go.Pur.wok_none Go.Pur.wok_low_iff Go.Pur.lowOf_wok keep85 keep86 keep100 keep20 keep58
def f22_L0 (F : Nat) (p0 : List Int) (p1 : List Int) (K : Unit → Option (Bool)) : Nat → Int → Option (Bool)
  | 0,_ => none
  | n + 1,v4 => (some ((p0.length : Int))).bind fun x5 =>
    (some (decide (v4 < x5))).bind fun x6 =>
    (match x6 with
    | true => ((gI p0 v4).bind fun y7 =>
    (gI p1 v4).bind fun y8 =>
    (some (decide (y7 = y8))).bind fun x9 =>
    (match x9 with
    | true => ((some (IntKind.i64.wrap (v4 + 1))).bind fun x10 =>
    f22_L0 F p0 p1 K n x10)
    | false => (some false)))
    | false => (K ()))
def f22S (F : Nat) (p0 : List Int) (p1 : List Int) : Option (Bool) :=
  (some ((p0.length : Int))).bind fun x1 =>
  (some ((p1.length : Int))).bind fun x2 =>
  (some (decide (x1 = x2))).bind fun x3 =>
  (match x3 with
  | true => (f22_L0 F p0 p1 (fun _ =>
    some true) F 0)
  | false => (some false))
theorem f22_is {a0 : Bool} {c0 : Ck} {p0 : List Int} {a1 : Bool} {c1 : Ck} {p1 : List Int} {hp : List (Option (List PV))} {F : Nat} {r : (Bool)}  (h : f22S F p0 p1 = some r) :
    E Tryd.prog Y0 22 [.l (ak a0) c0 p0.length (p0.map iv),.l (ak a1) c1 p1.length (p1.map iv)] hp = some (.v (.bool r),hp,none) := by
  rw [E_bodyN 2 body22 rfl (by decide) rfl]
  simp only [Tryd.f22,Option.get_some]
  unfold f22S at h
  obtain ⟨x1,ex1,h⟩ := bindT h
  obtain ⟨x2,ex2,h⟩ := bindT h
  obtain ⟨x3,ex3,h⟩ := bindT h
  cases x3
  case false =>
   obtain rfl := inj_ok h
   simp [ex1,ex2,ex3]
  simp [ex1,ex2,ex3]
  have hL0 := h; clear h
  refine loopS (S := f22_L0 F p0 p1) (fun v4 σ => ∃ (ts : Tr PV) (w : Option Nat),wok hp.length w ∧ σ = ⟨[],ts,hp,w⟩ ∧ ts.get 0 = some (.l (ak a0) c0 p0.length (p0.map iv)) ∧ ts.get 1 = some (.l (ak a1) c1 p1.length (p1.map iv)) ∧ ts.get 5 = some (iv v4) ∧ True) (fun _ σ => ∃ (ts : Tr PV) (w : Option Nat),wok hp.length w ∧ σ = ⟨[],ts,hp,w⟩ ∧ True) (fun _ => rfl) hL0 ?_ ?_ ?_
  · exact ⟨_,_,by simp,rfl,by simp [ex1,ex2,ex3]⟩
  · rintro ⟨⟩ σ ⟨ts,w,hw,rfl,-⟩ h
    clear hL0
    try dsimp only at h
    obtain rfl := inj_ok h
    simp [hw]
  · rintro k n v4 σ ⟨ts,w,hw,rfl,g0,g1,g5,-⟩ h ih ex
    clear hL0
    rw [f22_L0] at h
    obtain ⟨x5,ex5,h⟩ := bindT h
    obtain ⟨x6,ex6,h⟩ := bindT h
    cases x6
    case false =>
     simp [g0,g1,g5,ex5,ex6]
     refine ex () _ ?_ h
     exact ⟨_,_,by simp [hw],rfl,by simp [g0,g1,g5,ex5,ex6]⟩
    obtain ⟨y7,ey7,h⟩ := bind_ok h
    obtain ⟨ey7a,ey7e,ey7b,ey7c,ey7g⟩ := gI_ok rfl ey7
    obtain ⟨y8,ey8,h⟩ := bind_ok h
    obtain ⟨ey8a,ey8e,ey8b,ey8c,ey8g⟩ := gI_ok rfl ey8
    obtain ⟨x9,ex9,h⟩ := bindT h
    cases x9
    case false =>
     obtain rfl := inj_ok h
     simp [g0,g1,g5,ex5,ex6,ey7a,ey7b,ey7c,ey8a,ey8b,ey8c,ex9,hw]
    obtain ⟨x10,ex10,h⟩ := bindT h
    simp [g0,g1,g5,ex5,ex6,ey7a,ey7b,ey7c,ey8a,ey8b,ey8c,ex9,ex10]
    refine ih x10 _ ?_ h
    exact ⟨_,_,by simp [hw],rfl,by simp [g0,g1,g5,ex5,ex6,ey7a,ey7b,ey7c,ey8a,ey8b,ey8c,ex9,ex10]⟩
def f39_L0 (F : Nat) (p0 : List (Int × Int)) (p1 : List (Int × Int)) (K : Unit → Option (Bool)) : Nat → Int → Option (Bool)
  | 0,_ => none
  | n + 1,v4 => (some ((p0.length : Int))).bind fun x5 =>
    (some (decide (v4 < x5))).bind fun x6 =>
    (match x6 with
    | true => ((gI p0 v4).bind fun y7 =>
    (gI p1 v4).bind fun y8 =>
    (some ((decide (y7.1 = y8.1) && decide (y7.2 = y8.2)))).bind fun x9 =>
    (match x9 with
    | true => ((some (IntKind.i64.wrap (v4 + 1))).bind fun x11 =>
    f39_L0 F p0 p1 K n x11)
    | false => (some false)))
    | false => (K ()))
def f39S (F : Nat) (p0 : List (Int × Int)) (p1 : List (Int × Int)) : Option (Bool) :=
  (some ((p0.length : Int))).bind fun x1 =>
  (some ((p1.length : Int))).bind fun x2 =>
  (some (decide (x1 = x2))).bind fun x3 =>
  (match x3 with
  | true => (f39_L0 F p0 p1 (fun _ =>
    some true) F 0)
  | false => (some false))
theorem f39_is {a0 : Bool} {c0 : Ck} {p0 : List (Int × Int)} {a1 : Bool} {c1 : Ck} {p1 : List (Int × Int)} {hp : List (Option (List PV))} {F : Nat} {r : (Bool)}  (h : f39S F p0 p1 = some r) :
    E Tryd.prog Y0 39 [.l (ak a0) c0 p0.length (rows p0),.l (ak a1) c1 p1.length (rows p1)] hp = some (.v (.bool r),hp,none) := by
  rw [E_bodyN 2 body39 rfl (by decide) rfl]
  simp only [Tryd.f39,Option.get_some]
  unfold f39S at h
  obtain ⟨x1,ex1,h⟩ := bindT h
  obtain ⟨x2,ex2,h⟩ := bindT h
  obtain ⟨x3,ex3,h⟩ := bindT h
  cases x3
  case false =>
   obtain rfl := inj_ok h
   simp [ex1,ex2,ex3]
  simp [ex1,ex2,ex3]
  have hL0 := h; clear h
  refine loopS (S := f39_L0 F p0 p1) (fun v4 σ => ∃ (ts : Tr PV) (w : Option Nat),wok hp.length w ∧ σ = ⟨[],ts,hp,w⟩ ∧ ts.get 0 = some (.l (ak a0) c0 p0.length (rows p0)) ∧ ts.get 1 = some (.l (ak a1) c1 p1.length (rows p1)) ∧ ts.get 5 = some (iv v4) ∧ True) (fun _ σ => ∃ (ts : Tr PV) (w : Option Nat),wok hp.length w ∧ σ = ⟨[],ts,hp,w⟩ ∧ True) (fun _ => rfl) hL0 ?_ ?_ ?_
  · exact ⟨_,_,by simp,rfl,by simp [ex1,ex2,ex3]⟩
  · rintro ⟨⟩ σ ⟨ts,w,hw,rfl,-⟩ h
    clear hL0
    try dsimp only at h
    obtain rfl := inj_ok h
    simp [hw]
  · rintro k n v4 σ ⟨ts,w,hw,rfl,g0,g1,g5,-⟩ h ih ex
    clear hL0
    rw [f39_L0] at h
    obtain ⟨x5,ex5,h⟩ := bindT h
    obtain ⟨x6,ex6,h⟩ := bindT h
    cases x6
    case false =>
     simp [g0,g1,g5,ex5,ex6]
     refine ex () _ ?_ h
     exact ⟨_,_,by simp [hw],rfl,by simp [g0,g1,g5,ex5,ex6]⟩
    obtain ⟨y7,ey7,h⟩ := bind_ok h
    obtain ⟨ey7a,ey7e,ey7b,ey7c,ey7g⟩ := gI_ok rfl ey7
    have ey7d := rows_at ey7c
    have ey7f := rows_ble ey7e
    obtain ⟨y8,ey8,h⟩ := bind_ok h
    obtain ⟨ey8a,ey8e,ey8b,ey8c,ey8g⟩ := gI_ok rfl ey8
    have ey8d := rows_at ey8c
    have ey8f := rows_ble ey8e
    obtain ⟨x9,ex9,h⟩ := bindT h
    have q10 : ∀ x y,abin Tryd.prog .neq 47 x y (.agg #[.int .i64 y7.1,.int .i64 y7.2]) (.agg #[.int .i64 y8.1,.int .i64 y8.2]) = some (.bool (!x9)) := fun x y => by rw [neq47,ex9]
    cases x9
    case false =>
     obtain rfl := inj_ok h
     simp [g0,g1,g5,ex5,ex6,ey7a,ey7b,ey7c,ey7d,ey7f,ey8a,ey8b,ey8c,ey8d,ey8f,q10,hw]
    obtain ⟨x11,ex11,h⟩ := bindT h
    simp [g0,g1,g5,ex5,ex6,ey7a,ey7b,ey7c,ey7d,ey7f,ey8a,ey8b,ey8c,ey8d,ey8f,q10,ex11]
    refine ih x11 _ ?_ h
    exact ⟨_,_,by simp [hw],rfl,by simp [g0,g1,g5,ex5,ex6,ey7a,ey7b,ey7c,ey7d,ey7f,ey8a,ey8b,ey8c,ey8d,ey8f,q10,ex11]⟩
def f70_L0 (F : Nat) (p0 : List Int) (p1 : List Int) (x1 : Int) (K : Unit → Option (Bool)) : Nat → Int → Option (Bool)
  | 0,_ => none
  | n + 1,v4 => (some (decide (v4 < x1))).bind fun x5 =>
    (match x5 with
    | true => ((gI p0 v4).bind fun y6 =>
    (gI p1 v4).bind fun y7 =>
    (some (decide (y6 = y7))).bind fun x8 =>
    (match x8 with
    | true => ((some (IntKind.i64.wrap (v4 + 1))).bind fun x9 =>
    f70_L0 F p0 p1 x1 K n x9)
    | false => (some false)))
    | false => (K ()))
def f70S (F : Nat) (p0 : List Int) (p1 : List Int) : Option (Bool) :=
  (some ((p0.length : Int))).bind fun x1 =>
  (some ((p1.length : Int))).bind fun x2 =>
  (some (decide (x1 = x2))).bind fun x3 =>
  (match x3 with
  | true => (f70_L0 F p0 p1 x1 (fun _ =>
    some true) F 0)
  | false => (some false))
theorem f70_is {a0 : Bool} {c0 : Ck} {p0 : List Int} {a1 : Bool} {c1 : Ck} {p1 : List Int} {hp : List (Option (List PV))} {F : Nat} {r : (Bool)}  (h : f70S F p0 p1 = some r) :
    E Tryd.prog Y0 70 [.l (ak a0) c0 p0.length (p0.map iv),.l (ak a1) c1 p1.length (p1.map iv)] hp = some (.v (.bool r),hp,none) := by
  rw [E_bodyN 2 body70 rfl (by decide) rfl]
  simp only [Tryd.f70,Option.get_some]
  unfold f70S at h
  obtain ⟨x1,ex1,h⟩ := bindT h
  obtain ⟨x2,ex2,h⟩ := bindT h
  obtain ⟨x3,ex3,h⟩ := bindT h
  cases x3
  case false =>
   obtain rfl := inj_ok h
   simp [ex1,ex2,ex3]
  simp [ex1,ex2,ex3]
  have hL0 := h; clear h
  refine loopS (S := f70_L0 F p0 p1 x1) (fun v4 σ => ∃ (ts : Tr PV) (w : Option Nat),wok hp.length w ∧ σ = ⟨[],ts,hp,w⟩ ∧ ts.get 0 = some (.l (ak a0) c0 p0.length (p0.map iv)) ∧ ts.get 1 = some (.l (ak a1) c1 p1.length (p1.map iv)) ∧ ts.get 12 = some (iv x1) ∧ ts.get 13 = some (iv v4) ∧ True) (fun _ σ => ∃ (ts : Tr PV) (w : Option Nat),wok hp.length w ∧ σ = ⟨[],ts,hp,w⟩ ∧ True) (fun _ => rfl) hL0 ?_ ?_ ?_
  · exact ⟨_,_,by simp,rfl,by simp [ex1,ex2,ex3]⟩
  · rintro ⟨⟩ σ ⟨ts,w,hw,rfl,-⟩ h
    clear hL0
    try dsimp only at h
    obtain rfl := inj_ok h
    simp [hw]
  · rintro k n v4 σ ⟨ts,w,hw,rfl,g0,g1,g12,g13,-⟩ h ih ex
    clear hL0
    rw [f70_L0] at h
    obtain ⟨x5,ex5,h⟩ := bindT h
    cases x5
    case false =>
     simp [g0,g1,g12,g13,ex5]
     refine ex () _ ?_ h
     exact ⟨_,_,by simp [hw],rfl,by simp [g0,g1,g12,g13,ex5]⟩
    obtain ⟨y6,ey6,h⟩ := bind_ok h
    obtain ⟨ey6a,ey6e,ey6b,ey6c,ey6g⟩ := gI_ok rfl ey6
    obtain ⟨y7,ey7,h⟩ := bind_ok h
    obtain ⟨ey7a,ey7e,ey7b,ey7c,ey7g⟩ := gI_ok rfl ey7
    obtain ⟨x8,ex8,h⟩ := bindT h
    cases x8
    case false =>
     obtain rfl := inj_ok h
     simp [g0,g1,g12,g13,ex5,ey6a,ey6b,ey6c,ey7a,ey7b,ey7c,ex8,hw]
    obtain ⟨x9,ex9,h⟩ := bindT h
    simp [g0,g1,g12,g13,ex5,ey6a,ey6b,ey6c,ey7a,ey7b,ey7c,ex8,ex9]
    refine ih x9 _ ?_ h
    exact ⟨_,_,by simp [hw],rfl,by simp [g0,g1,g12,g13,ex5,ey6a,ey6b,ey6c,ey7a,ey7b,ey7c,ex8,ex9]⟩
def penBy (c : Int) (d : Int × Int) : Int × Int := if c = 118 then (IntKind.i64.wrap (-d.2),IntKind.i64.wrap (-(IntKind.i64.wrap (-d.1)))) else (d.2,IntKind.i64.wrap (-d.1))
theorem step_is {x y u v c : Int} {hp : List (Option (List PV))} : E Tryd.prog Y0 85 [.p hp.length 0,.v (.int .i32 c)] (hp ++ [some [iv x,iv y,iv u,iv v]]) =
  some (.a [iv (IntKind.i64.wrap (x + (penBy c (u,v)).1)),iv (IntKind.i64.wrap (y + (penBy c (u,v)).2))],hp ++ [some [iv (IntKind.i64.wrap (x + (penBy c (u,v)).1)),iv (IntKind.i64.wrap (y + (penBy c (u,v)).2)),iv (penBy c (u,v)).1,iv (penBy c (u,v)).2]],some hp.length) := by
 rw [E_bodyN 2 body85 rfl (by decide) rfl]
 simp only [Tryd.f85,Option.get_some]
 by_cases h : c = 118
 ·have e : penBy c (u,v) = (IntKind.i64.wrap (-v),IntKind.i64.wrap (-(IntKind.i64.wrap (-u)))) := by unfold penBy; rw [if_pos h]
  rw [e]
  simp [h,spliceP]
  generalize hmt : mayTurn _ = mb; obtain rfl : mb = true := hmt.symm.trans (by kernel_rfl); clear hmt
  simp [h,spliceP]
  generalize hmt : mayTurn _ = mb; obtain rfl : mb = true := hmt.symm.trans (by kernel_rfl); clear hmt
  simp [h,spliceP]
  generalize hmt : mayTurn _ = mb; obtain rfl : mb = true := hmt.symm.trans (by kernel_rfl); clear hmt
  simp [h,spliceP]
  simp [lowB,lowOf,min_same,min_add,take_app1]
 ·have e : penBy c (u,v) = (v,IntKind.i64.wrap (-u)) := by unfold penBy; rw [if_neg h]
  rw [e]
  simp [h,spliceP]
  generalize hmt : mayTurn _ = mb; obtain rfl : mb = true := hmt.symm.trans (by kernel_rfl); clear hmt
  simp [h,spliceP]
  generalize hmt : mayTurn _ = mb; obtain rfl : mb = true := hmt.symm.trans (by kernel_rfl); clear hmt
  simp [h,spliceP]
  simp [lowB,lowOf,min_same,min_add,take_app1]
def lenN (n : Nat) : Nat := (((List.range 7).find? fun i => n == 2 ^ i).getD 63) + 1
theorem len64_is {n : Nat} {hp : List (Option (List PV))} (h : n = 1 ∨ n = 2 ∨ n = 4 ∨ n = 8 ∨ n = 16 ∨ n = 32 ∨ n = 64) : E Tryd.prog Y0 100 [kv .u64 n] hp = some (iv (lenN n),hp,none) := by
 rw [E_bodyN 1 body100 rfl (by decide) rfl]
 simp only [Tryd.f100,Option.get_some]
 have c1 : ∀ z,prunP Tryd.prog (convert 51 5 (.int .u64 z)) = some (.int .u8 (IntKind.u8.wrap z)) := fun z => by kernel_rfl
 have c2 : ∀ z,prunP Tryd.prog (convert 5 3 (.int .u8 z)) = some (.int .i64 (IntKind.i64.wrap z)) := fun z => by kernel_rfl
 rcases h with rfl | rfl | rfl | rfl | rfl | rfl | rfl
 ·simp [c1,c2]
  generalize hx : pqIndex _ _ _ _ = z
  obtain rfl : z = some (uv 1) := hx.symm.trans (by kernel_rfl)
  have e : lenN 1 = 1 := rfl
  have e2 : IntKind.i64.wrap 1 = 1 := rfl
  simp [c1,c2,e,e2]
 ·simp [c1,c2]
  generalize hx : pqIndex _ _ _ _ = z
  obtain rfl : z = some (uv 2) := hx.symm.trans (by kernel_rfl)
  have e : lenN 2 = 2 := rfl
  have e2 : IntKind.i64.wrap 2 = 2 := rfl
  simp [c1,c2,e,e2]
 ·simp [c1,c2]
  generalize hx : pqIndex _ _ _ _ = z
  obtain rfl : z = some (uv 3) := hx.symm.trans (by kernel_rfl)
  have e : lenN 4 = 3 := rfl
  have e2 : IntKind.i64.wrap 3 = 3 := rfl
  simp [c1,c2,e,e2]
 ·simp [c1,c2]
  generalize hx : pqIndex _ _ _ _ = z
  obtain rfl : z = some (uv 4) := hx.symm.trans (by kernel_rfl)
  have e : lenN 8 = 4 := rfl
  have e2 : IntKind.i64.wrap 4 = 4 := rfl
  simp [c1,c2,e,e2]
 ·simp [c1,c2]
  generalize hx : pqIndex _ _ _ _ = z
  obtain rfl : z = some (uv 5) := hx.symm.trans (by kernel_rfl)
  have e : lenN 16 = 5 := rfl
  have e2 : IntKind.i64.wrap 5 = 5 := rfl
  simp [c1,c2,e,e2]
 ·simp [c1,c2]
  generalize hx : pqIndex _ _ _ _ = z
  obtain rfl : z = some (uv 6) := hx.symm.trans (by kernel_rfl)
  have e : lenN 32 = 6 := rfl
  have e2 : IntKind.i64.wrap 6 = 6 := rfl
  simp [c1,c2,e,e2]
 ·simp [c1,c2]
  generalize hx : pqIndex _ _ _ _ = z
  obtain rfl : z = some (uv 7) := hx.symm.trans (by kernel_rfl)
  have e : lenN 64 = 7 := rfl
  have e2 : IntKind.i64.wrap 7 = 7 := rfl
  simp [c1,c2,e,e2]
def lenO (z : Int) : Option Int := if z = 1 ∨ z = 2 ∨ z = 4 ∨ z = 8 ∨ z = 16 ∨ z = 32 ∨ z = 64 then some (lenN z.toNat) else none
theorem f86_is {p0 : Int} {hp : List (Option (List PV))} {r : Int} (h : lenO p0 = some r) : E Tryd.prog Y0 86 [kv .u64 p0] hp = some (iv r,hp,none) := by
 unfold lenO at h
 split at h
 ·rename_i hl
  obtain rfl := inj_ok h
  have hz : p0 = ((p0.toNat : Nat) : Int) := by omega
  generalize p0.toNat = n at hz
  subst hz
  have q := fun hp => @len64_is n hp (by omega)
  rw [E_bodyN 1 body86 rfl (by decide) rfl]
  simp only [Tryd.f86,Option.get_some]
  simp [q]
 ·cases h
theorem elm23Ref2 : elemSz Tryd.prog 23 = some 1 := by kernel_rfl
def f58_L0 (F : Nat) (p0 : List UInt8) (K : Ck × List (Int × Int) × Int × Int × Int × Int → Option ((Ck × List (Int × Int)))) : Nat → Ck × List (Int × Int) × Nat × Int × Int × Int × Int → Option ((Ck × List (Int × Int)))
  | 0,_ => none
  | n + 1,(c2,v3,v4,v5,v6,v7,v8) => (some (Nat.ble (v4 + 1) p0.length)).bind fun x9 =>
    (match x9 with
    | true => ((gA p0 v4).bind fun x10 =>
    (some (penBy (x10 : Int) (v7,v8))).bind fun x11 =>
    (some (IntKind.i64.wrap (v5 + x11.1))).bind fun x12 =>
    (some (IntKind.i64.wrap (v6 + x11.2))).bind fun x13 =>
    (app1 v3 (x12,x13)).bind fun x15 =>
    f58_L0 F p0 K n (.nz,x15,v4 + 1,x12,x13,x11.1,x11.2))
    | false => (K (c2,v3,v5,v6,v7,v8)))
def f58S (F : Nat) (p0 : List UInt8) : Option ((Ck × List (Int × Int))) :=
  f58_L0 F p0 (fun (c16,v17,v18,v19,v20,v21) =>
    some (c16,v17)) F (.full,[(0,0),(1,0)],0,1,0,1,0)
theorem f58_is {p0 : List UInt8} {hp : List (Option (List PV))} {F : Nat} {r : ((Ck × List (Int × Int)))}  (h : f58S F p0 = some r) :
    E Tryd.prog Y0 58 [.v (.string (bs p0))] hp = some (.l (vlOf r.1) r.1 r.2.length (rows r.2),hp,none) := by
  rw [E_bodyN 1 body58 rfl (by decide) rfl]
  simp only [Tryd.f58,Option.get_some]
  unfold f58S at h
  have q1 : spliceP 0 [iv 1,iv 0,iv 1,iv 0] [iv 0,iv 0,iv 0,iv 0] = some [iv 1,iv 0,iv 1,iv 0] := rfl
  simp [q1]
  all_goals try (rw [mayStore_of [12,15] (by kernel_rfl) (by simp [q1])])
  all_goals try simp [q1]
  have hL0 := h; clear h
  refine loopS (S := f58_L0 F p0) (fun (c2,v3,v4,v5,v6,v7,v8) σ => ∃ (ts : Tr PV) (w : Option Nat),wok hp.length w ∧ σ = ⟨[],ts,hp ++ [some [iv v5,iv v6,iv v7,iv v8]],w⟩ ∧ ts.get 3 = some (.l (vlOf c2) c2 v3.length (rows v3)) ∧ ts.get 5 = some (.f 85 [.p hp.length 0] []) ∧ ts.get 20 = some (.it (bs p0) v4) ∧ True) (fun (c16,v17,v18,v19,v20,v21) σ => ∃ (ts : Tr PV) (w : Option Nat),wok hp.length w ∧ σ = ⟨[],ts,hp ++ [some [iv v18,iv v19,iv v20,iv v21]],w⟩ ∧ ts.get 3 = some (.l (vlOf c16) c16 v17.length (rows v17)) ∧ True) (fun _ => rfl) hL0 ?_ ?_ ?_
  · exact ⟨_,_,by simp,rfl,by simp [q1]⟩
  · rintro ⟨c16,v17,v18,v19,v20,v21⟩ σ ⟨ts,w,hw,rfl,g3,-⟩ h
    clear hL0
    try dsimp only at h
    cases c16 with
    | full =>
      obtain rfl := inj_ok h
      simp [g3,hw]
    | nz =>
      obtain rfl := inj_ok h
      simp [g3,hw]
    | any =>
      obtain rfl := inj_ok h
      simp [g3,hw]
  · rintro k n ⟨c2,v3,v4,v5,v6,v7,v8⟩ σ ⟨ts,w,hw,rfl,g3,g5,g20,-⟩ h ih ex
    clear hL0
    rw [f58_L0] at h
    cases c2 with
    | full =>
      obtain ⟨x9,ex9,h⟩ := bindT h
      cases x9
      case false =>
       simp [g3,g5,g20,ex9]
       refine ex (Ck.full,v3,v5,v6,v7,v8) _ ?_ h
       exact ⟨_,_,by simp [hw],rfl,by simp [g3,g5,g20,ex9]⟩
      obtain ⟨x10,ex10,h⟩ := bind_ok h
      have ex10 := gA_ok ex10
      obtain ⟨x11,ex11,h⟩ := bindT h
      obtain ⟨x12,ex12,h⟩ := bindT h
      obtain ⟨x13,ex13,h⟩ := bindT h
      have q14 := @step_is v5 v6 v7 v8 (x10 : Int) hp
      rw [ex11,ex12,ex13] at q14
      obtain ⟨x15,ex15,h⟩ := bind_ok h
      obtain ⟨ex15a,ex15b,ex15c,ex15q⟩ := app1_rows ex15
      have ex15b := ex15b 19 (by decide)
      simp [g3,g5,g20,ex9,ex10,ex11,ex12,ex13,q14,ex15a,ex15b,ex15c]
      refine ih (.nz,x15,v4 + 1,x12,x13,x11.1,x11.2) _ ?_ h
      exact ⟨_,_,by simp [hw],rfl,by simp [g3,g5,g20,ex9,ex10,ex11,ex12,ex13,q14,ex15a,ex15b,ex15c]⟩
    | nz =>
      obtain ⟨x9,ex9,h⟩ := bindT h
      cases x9
      case false =>
       simp [g3,g5,g20,ex9]
       refine ex (Ck.nz,v3,v5,v6,v7,v8) _ ?_ h
       exact ⟨_,_,by simp [hw],rfl,by simp [g3,g5,g20,ex9]⟩
      obtain ⟨x10,ex10,h⟩ := bind_ok h
      have ex10 := gA_ok ex10
      obtain ⟨x11,ex11,h⟩ := bindT h
      obtain ⟨x12,ex12,h⟩ := bindT h
      obtain ⟨x13,ex13,h⟩ := bindT h
      have q14 := @step_is v5 v6 v7 v8 (x10 : Int) hp
      rw [ex11,ex12,ex13] at q14
      obtain ⟨x15,ex15,h⟩ := bind_ok h
      obtain ⟨ex15a,ex15b,ex15c,ex15q⟩ := app1_rows ex15
      have ex15b := ex15b 19 (by decide)
      simp [g3,g5,g20,ex9,ex10,ex11,ex12,ex13,q14,ex15a,ex15b,ex15c]
      refine ih (.nz,x15,v4 + 1,x12,x13,x11.1,x11.2) _ ?_ h
      exact ⟨_,_,by simp [hw],rfl,by simp [g3,g5,g20,ex9,ex10,ex11,ex12,ex13,q14,ex15a,ex15b,ex15c]⟩
    | any =>
      obtain ⟨x9,ex9,h⟩ := bindT h
      cases x9
      case false =>
       simp [g3,g5,g20,ex9]
       refine ex (Ck.any,v3,v5,v6,v7,v8) _ ?_ h
       exact ⟨_,_,by simp [hw],rfl,by simp [g3,g5,g20,ex9]⟩
      obtain ⟨x10,ex10,h⟩ := bind_ok h
      have ex10 := gA_ok ex10
      obtain ⟨x11,ex11,h⟩ := bindT h
      obtain ⟨x12,ex12,h⟩ := bindT h
      obtain ⟨x13,ex13,h⟩ := bindT h
      have q14 := @step_is v5 v6 v7 v8 (x10 : Int) hp
      rw [ex11,ex12,ex13] at q14
      obtain ⟨x15,ex15,h⟩ := bind_ok h
      obtain ⟨ex15a,ex15b,ex15c,ex15q⟩ := app1_rows ex15
      have ex15b := ex15b 19 (by decide)
      simp [g3,g5,g20,ex9,ex10,ex11,ex12,ex13,q14,ex15a,ex15b,ex15c]
      refine ih (.nz,x15,v4 + 1,x12,x13,x11.1,x11.2) _ ?_ h
      exact ⟨_,_,by simp [hw],rfl,by simp [g3,g5,g20,ex9,ex10,ex11,ex12,ex13,q14,ex15a,ex15b,ex15c]⟩
def f20_L0 (F : Nat) (x4 : (Ck × List Int)) (K : List Int × List Int → Option ((Ck × List Int) × (Ck × List Int) × Int)) : Nat → Int × List Int × List Int → Option ((Ck × List Int) × (Ck × List Int) × Int)
  | 0,_ => none
  | n + 1,(v12,m13,m14) => (some (decide (v12 < (x4.2.length : Int)))).bind fun x15 =>
    (match x15 with
    | true => ((gI x4.2 v12).bind fun y16 =>
    (some (Int.tmod y16 2)).bind fun x17 =>
    (if x17 = 0 then ((some (mulI .i64 2 v12)).bind fun x18 =>
    (some (IntKind.i64.wrap (x18 + 1))).bind fun x19 =>
    (some (IntKind.i64.wrap (x18 + 2))).bind fun x20 =>
    (gI m13 y16).bind fun y21 =>
    (sI m13 y16 x19).bind fun m22 =>
    (gI m14 y16).bind fun y23 =>
    (sI m14 y16 x20).bind fun m24 =>
    (some (IntKind.i64.wrap (v12 + 1))).bind fun x25 =>
    f20_L0 F x4 K n (x25,m22,m24)) else ((if x17 = 1 then ((some (mulI .i64 2 v12)).bind fun x26 =>
    (some (IntKind.i64.wrap (x26 + 1))).bind fun x27 =>
    (some (IntKind.i64.wrap (x26 + 2))).bind fun x28 =>
    (gI m14 y16).bind fun y29 =>
    (sI m14 y16 x27).bind fun m30 =>
    (gI m13 y16).bind fun y31 =>
    (sI m13 y16 x28).bind fun m32 =>
    (some (IntKind.i64.wrap (v12 + 1))).bind fun x33 =>
    f20_L0 F x4 K n (x33,m32,m30)) else (none)))))
    | false => (K (m13,m14)))
def f20S (F : Nat) (p0 : List UInt8) : Option ((Ck × List Int) × (Ck × List Int) × Int) :=
  (some (checkE p0)).bind fun x1 =>
  (some (decide (x1 = 0))).bind fun x3 =>
  (match x3 with
  | true => ((pileO p0).bind fun x4 =>
  (some ((x4.2.length : Int))).bind fun x5 =>
  (gN x4.2.length).bind fun x6 =>
  (some (List.replicate x4.2.length (0 : Int))).bind fun m8 =>
  (gN x4.2.length).bind fun x9 =>
  f20_L0 F x4 (fun (m36,m37) =>
    some ((.any,m36),(.any,m37),0)) F (0,m8,m8))
  | false => (some ((.nz,[]),(.nz,[]),x1)))
theorem f20_is {p0 : List UInt8} {hp : List (Option (List PV))} {F : Nat} {r : ((Ck × List Int) × (Ck × List Int) × Int)}  (h : f20S F p0 = some r) :
    E Tryd.prog Y0 20 [.v (.string (bs p0))] hp = some (.t [.l .fz r.1.1 r.1.2.length (r.1.2.map iv),.l .fz r.2.1.1 r.2.1.2.length (r.2.1.2.map iv),iv r.2.2],hp,none) := by
  rw [E_bodyN 1 body20 rfl (by decide) rfl]
  simp only [Tryd.f20,Option.get_some]
  unfold f20S at h
  replace h := bindT h; obtain ⟨x1,ex1,h⟩ := h
  have q2 : ∀ hp,E Tryd.prog Y0 27 [.v (.string (bs p0))] hp = some (iv x1,hp,none) := fun hp => f27_is ex1
  replace h := bindT h; obtain ⟨x3,ex3,h⟩ := h
  cases x3
  case false =>
   obtain rfl := inj_ok h
   simp [ex1,q2,ex3]
  replace h := bind_ok h; obtain ⟨x4,ex4,h⟩ := h
  have ex4 : ∀ hp,E Tryd.prog Y0 55 [.v (.string (bs p0))] hp = some (.l .fz x4.1 x4.2.length (x4.2.map iv),hp,none) := fun hp => f55_is ex4
  replace h := bindT h; obtain ⟨x5,ex5,h⟩ := h
  subst ex5
  replace h := bind_ok h; obtain ⟨x6,ex6,h⟩ := h
  have ex6 := gN_ok ex6 10 (by decide)
  replace h := bind_ok h; obtain ⟨m8,em8,h⟩ := h
  have em8 := inj_ok em8
  have em8r : reps [iv 0] x4.2.length = m8.map iv := by rw [← em8]; exact reps_rep
  have hl0 : m8.length = x4.2.length := by rw [← em8]; exact rep_len
  replace h := bind_ok h; obtain ⟨x9,ex9,h⟩ := h
  have ex9 := gN_ok ex9 10 (by decide)
  have hl1 : m8.length = x4.2.length := by rw [← em8]; exact rep_len
  have q11 : spliceP 0 [.s hp.length 0 x4.2.length x4.2.length,.s (hp.length + 1) 0 x4.2.length x4.2.length] [.l .own .nz 0 [],.l .own .nz 0 []] = some [.s hp.length 0 x4.2.length x4.2.length,.s (hp.length + 1) 0 x4.2.length x4.2.length] := rfl
  simp [ex1,q2,ex3,ex4,ex6,em8r,hl0,ex9,hl1,q11]
  all_goals try (rw [mayStore_of [] (by kernel_rfl) (by simp [ex1,q2,ex3,ex4,ex6,em8r,hl0,ex9,hl1,q11])])
  all_goals try simp [ex1,q2,ex3,ex4,ex6,em8r,hl0,ex9,hl1,q11]
  have hL0 := h; clear h
  refine loopS (S := f20_L0 F x4) (fun (v12,m13,m14) σ => ∃ (ts : Tr PV) (w : Option Nat),wok hp.length w ∧ σ = ⟨[],ts,hp ++ [some (m13.map iv),some (m14.map iv),some [.s hp.length 0 x4.2.length x4.2.length,.s (hp.length + 1) 0 x4.2.length x4.2.length]],w⟩ ∧ ts.get 7 = some (.p (hp.length + 2) 0) ∧ ts.get 24 = some (.l .fz x4.1 x4.2.length (x4.2.map iv)) ∧ ts.get 25 = some (iv (x4.2.length : Int)) ∧ ts.get 26 = some (iv v12) ∧ m13.length = x4.2.length ∧ m14.length = x4.2.length ∧ True) (fun (m36,m37) σ => ∃ (ts : Tr PV) (w : Option Nat),wok hp.length w ∧ σ = ⟨[],ts,hp ++ [some (m36.map iv),some (m37.map iv),some [.s hp.length 0 x4.2.length x4.2.length,.s (hp.length + 1) 0 x4.2.length x4.2.length]],w⟩ ∧ ts.get 7 = some (.p (hp.length + 2) 0) ∧ m36.length = x4.2.length ∧ m37.length = x4.2.length ∧ True) (fun _ => rfl) hL0 ?_ ?_ ?_
  · exact ⟨_,_,by simp,rfl,by simp [ex1,q2,ex3,ex4,ex6,em8r,hl0,ex9,hl1,q11]⟩
  · rintro ⟨m36,m37⟩ σ ⟨ts,w,hw,rfl,g7,hl0,hl1,-⟩ h
    clear hL0
    try dsimp only at h
    have st38 := settle_list (sz := elemSz Tryd.prog) (base := hp.length) (hp := hp ++ [some (m36.map iv),some (m37.map iv),some [.s hp.length 0 x4.2.length x4.2.length,.s (hp.length + 1) 0 x4.2.length x4.2.length]]) (t := 23) (b := hp.length) (cap := x4.2.length) iv (by omega) elm23Ref2 (by simp) hl0 (by intro z; rfl)
    have st39 := settle_list (sz := elemSz Tryd.prog) (base := hp.length) (hp := hp ++ [some (m36.map iv),some (m37.map iv),some [.s hp.length 0 x4.2.length x4.2.length,.s (hp.length + 1) 0 x4.2.length x4.2.length]]) (t := 23) (b := (hp.length + 1)) (cap := x4.2.length) iv (by omega) elm23Ref2 (by simp) hl1 (by intro z; rfl)
    obtain rfl := inj_ok h
    simp [g7,hl0,hl1,st38,st39,hw]
  · rintro k n ⟨v12,m13,m14⟩ σ ⟨ts,w,hw,rfl,g7,g24,g25,g26,hl0,hl1,-⟩ h ih ex
    clear hL0
    rw [f20_L0] at h
    replace h := bindT h; obtain ⟨x15,ex15,h⟩ := h
    cases x15
    case false =>
     simp [g7,g24,g25,g26,hl0,hl1,ex15]
     refine ex (m13,m14) _ ?_ h
     exact ⟨_,_,by simp [hw],rfl,by simp [g7,g24,g25,g26,hl0,hl1,ex15]⟩
    replace h := bind_ok h; obtain ⟨y16,ey16,h⟩ := h
    obtain ⟨ey16a,ey16e,ey16b,ey16c,ey16g⟩ := gI_ok rfl ey16
    replace h := bindT h; obtain ⟨x17,ex17,h⟩ := h
    by_cases h35 : x17 = 0
    · rw [if_pos h35] at h; subst h35
      have w1 : IntKind.i64.wrap (1) = 1 := rfl
      replace h := bindT h; obtain ⟨x18,ex18,h⟩ := h
      replace h := bindT h; obtain ⟨x19,ex19,h⟩ := h
      replace h := bindT h; obtain ⟨x20,ex20,h⟩ := h
      replace h := bind_ok h; obtain ⟨y21,ey21,h⟩ := h
      obtain ⟨ey21a,ey21e,ey21b,ey21c,ey21g⟩ := gI_ok hl0 ey21
      replace h := bind_ok h; obtain ⟨m22,em22,h⟩ := h
      obtain ⟨em22a,em22e,em22l,em22s,em22q⟩ := sI_ok iv hl0 em22
      have hl0 := em22l
      replace h := bind_ok h; obtain ⟨y23,ey23,h⟩ := h
      obtain ⟨ey23a,ey23e,ey23b,ey23c,ey23g⟩ := gI_ok hl1 ey23
      replace h := bind_ok h; obtain ⟨m24,em24,h⟩ := h
      obtain ⟨em24a,em24e,em24l,em24s,em24q⟩ := sI_ok iv hl1 em24
      have hl1 := em24l
      replace h := bindT h; obtain ⟨x25,ex25,h⟩ := h
      simp [g7,g24,g25,g26,hl0,hl1,ex15,ey16a,ey16b,ey16c,ex17,w1,ex18,ex19,ex20,ey21a,ey21b,ey21c,em22a,em22s,ey23a,ey23b,ey23c,em24a,em24s,ex25]
      all_goals try (rw [mayStore_of [33,39] (by kernel_rfl) (by simp [g7,g24,g25,g26,hl0,hl1,ex15,ey16a,ey16b,ey16c,ex17,w1,ex18,ex19,ex20,ey21a,ey21b,ey21c,em22a,em22s,ey23a,ey23b,ey23c,em24a,em24s,ex25])])
      all_goals try simp [g7,g24,g25,g26,hl0,hl1,ex15,ey16a,ey16b,ey16c,ex17,w1,ex18,ex19,ex20,ey21a,ey21b,ey21c,em22a,em22s,ey23a,ey23b,ey23c,em24a,em24s,ex25]
      all_goals try (rw [mayStore_of [33,39] (by kernel_rfl) (by simp [g7,g24,g25,g26,hl0,hl1,ex15,ey16a,ey16b,ey16c,ex17,w1,ex18,ex19,ex20,ey21a,ey21b,ey21c,em22a,em22s,ey23a,ey23b,ey23c,em24a,em24s,ex25])])
      all_goals try simp [g7,g24,g25,g26,hl0,hl1,ex15,ey16a,ey16b,ey16c,ex17,w1,ex18,ex19,ex20,ey21a,ey21b,ey21c,em22a,em22s,ey23a,ey23b,ey23c,em24a,em24s,ex25]
      refine ih (x25,m22,m24) _ ?_ h
      exact ⟨_,_,by simp [hw],rfl,by simp [g7,g24,g25,g26,hl0,hl1,ex15,ey16a,ey16b,ey16c,ex17,w1,ex18,ex19,ex20,ey21a,ey21b,ey21c,em22a,em22s,ey23a,ey23b,ey23c,em24a,em24s,ex25]⟩
    · rw [if_neg h35] at h
      by_cases h34 : x17 = 1
      · rw [if_pos h34] at h; subst h34
        have w0 : IntKind.i64.wrap (0) = 0 := rfl
        replace h := bindT h; obtain ⟨x26,ex26,h⟩ := h
        replace h := bindT h; obtain ⟨x27,ex27,h⟩ := h
        replace h := bindT h; obtain ⟨x28,ex28,h⟩ := h
        replace h := bind_ok h; obtain ⟨y29,ey29,h⟩ := h
        obtain ⟨ey29a,ey29e,ey29b,ey29c,ey29g⟩ := gI_ok hl1 ey29
        replace h := bind_ok h; obtain ⟨m30,em30,h⟩ := h
        obtain ⟨em30a,em30e,em30l,em30s,em30q⟩ := sI_ok iv hl1 em30
        have hl1 := em30l
        replace h := bind_ok h; obtain ⟨y31,ey31,h⟩ := h
        obtain ⟨ey31a,ey31e,ey31b,ey31c,ey31g⟩ := gI_ok hl0 ey31
        replace h := bind_ok h; obtain ⟨m32,em32,h⟩ := h
        obtain ⟨em32a,em32e,em32l,em32s,em32q⟩ := sI_ok iv hl0 em32
        have hl0 := em32l
        replace h := bindT h; obtain ⟨x33,ex33,h⟩ := h
        simp [g7,g24,g25,g26,hl0,hl1,ex15,ey16a,ey16b,ey16c,ex17,w0,ex26,ex27,ex28,ey29a,ey29b,ey29c,em30a,em30s,ey31a,ey31b,ey31c,em32a,em32s,ex33]
        all_goals try (rw [mayStore_of [33,39] (by kernel_rfl) (by simp [g7,g24,g25,g26,hl0,hl1,ex15,ey16a,ey16b,ey16c,ex17,w0,ex26,ex27,ex28,ey29a,ey29b,ey29c,em30a,em30s,ey31a,ey31b,ey31c,em32a,em32s,ex33])])
        all_goals try simp [g7,g24,g25,g26,hl0,hl1,ex15,ey16a,ey16b,ey16c,ex17,w0,ex26,ex27,ex28,ey29a,ey29b,ey29c,em30a,em30s,ey31a,ey31b,ey31c,em32a,em32s,ex33]
        all_goals try (rw [mayStore_of [33,39] (by kernel_rfl) (by simp [g7,g24,g25,g26,hl0,hl1,ex15,ey16a,ey16b,ey16c,ex17,w0,ex26,ex27,ex28,ey29a,ey29b,ey29c,em30a,em30s,ey31a,ey31b,ey31c,em32a,em32s,ex33])])
        all_goals try simp [g7,g24,g25,g26,hl0,hl1,ex15,ey16a,ey16b,ey16c,ex17,w0,ex26,ex27,ex28,ey29a,ey29b,ey29c,em30a,em30s,ey31a,ey31b,ey31c,em32a,em32s,ex33]
        refine ih (x33,m32,m30) _ ?_ h
        exact ⟨_,_,by simp [hw],rfl,by simp [g7,g24,g25,g26,hl0,hl1,ex15,ey16a,ey16b,ey16c,ex17,w0,ex26,ex27,ex28,ey29a,ey29b,ey29c,em30a,em30s,ey31a,ey31b,ey31c,em32a,em32s,ex33]⟩
      · rw [if_neg h34] at h
        cases h
end Go.Proofs.YtcjephdjemapbaaDoor
set_option linter.unusedSimpArgs false
set_option linter.unusedVariables false
namespace Go.Proofs.YtcjephdjemapbaaDoor
open Go.Abs Go.Pur
set_option maxRecDepth 100000
theorem gI_at {α : Type} {l : List α} {j : Nat} (h : j < l.length) : gI l (j : Int) = some l[j] := List.getElem?_eq_getElem h
theorem drop_at {α : Type} {l : List α} {j : Nat} (h : j < l.length) : l.drop j = l[j] :: l.drop (j + 1) := List.drop_eq_getElem_cons h
def sameO {α : Type} [DecidableEq α] (a b : List α) : Option Bool := match Nat.ble a.length 1000000 with
 | true => some (decide (a = b))
 | false => none
theorem sameO_ok {α : Type} [DecidableEq α] {a b : List α} {r : Bool} (h : sameO a b = some r) : a.length ≤ 1000000 ∧ decide (a = b) = r := by
 unfold sameO at h
 cases hb : Nat.ble a.length 1000000 with
 | false => simp [hb] at h
 | true =>
  have h1 := Nat.le_of_ble_eq_true hb
  simp [hb] at h
  exact ⟨h1,h⟩
section
variable {F : Nat} {a b : List Int} {K : Unit → Option Bool}
theorem same22_loop (hl : a.length = b.length) (hb : a.length < 1000000000) : ∀ (n j : Nat),j ≤ a.length → a.length - j < n → f22_L0 F a b K n (j : Int) = if a.drop j = b.drop j then K () else some false := by
 intro n
 induction n with
 | zero => intro j hj hn; omega
 | succ n ih =>
  intro j hj hn
  rw [f22_L0]
  by_cases h : j < a.length
  ·have h' : j < b.length := by omega
   have h1 : decide ((j : Int) < (a.length : Int)) = true := decide_eq_true (by omega)
   have h2 := wrap_nat (show j < 1000000000000 by omega)
   have h3 := ih (j + 1) (by omega) (by omega)
   have hm : a.drop j = b.drop j ↔ (a[j] = b[j] ∧ a.drop (j + 1) = b.drop (j + 1)) := by rw [drop_at h,drop_at h',List.cons.injEq]
   by_cases e : a[j] = b[j]
   ·simp only [Option.bind_some,h1,gI_at h,gI_at h',decide_eq_true e,h2,h3]
    by_cases q : a.drop (j + 1) = b.drop (j + 1)
    ·rw [if_pos q,if_pos (hm.2 ⟨e,q⟩)]
    ·rw [if_neg q,if_neg fun w => q (hm.1 w).2]
   ·simp only [Option.bind_some,h1,gI_at h,gI_at h',decide_eq_false e]
    rw [if_neg fun w => e (hm.1 w).1]
  ·have h1 : decide ((j : Int) < (a.length : Int)) = false := decide_eq_false (by omega)
   simp only [Option.bind_some,h1]
   rw [if_pos (by rw [List.drop_of_length_le (by omega : a.length ≤ j),List.drop_of_length_le (by omega : b.length ≤ j)])]
theorem same70_loop {z : Int} (hz : (a.length : Int) = z) (hl : a.length = b.length) (hb : a.length < 1000000000) : ∀ (n j : Nat),j ≤ a.length → a.length - j < n → f70_L0 F a b z K n (j : Int) = if a.drop j = b.drop j then K () else some false := by
 subst hz
 intro n
 induction n with
 | zero => intro j hj hn; omega
 | succ n ih =>
  intro j hj hn
  rw [f70_L0]
  by_cases h : j < a.length
  ·have h' : j < b.length := by omega
   have h1 : decide ((j : Int) < (a.length : Int)) = true := decide_eq_true (by omega)
   have h2 := wrap_nat (show j < 1000000000000 by omega)
   have h3 := ih (j + 1) (by omega) (by omega)
   have hm : a.drop j = b.drop j ↔ (a[j] = b[j] ∧ a.drop (j + 1) = b.drop (j + 1)) := by rw [drop_at h,drop_at h',List.cons.injEq]
   by_cases e : a[j] = b[j]
   ·simp only [Option.bind_some,h1,gI_at h,gI_at h',decide_eq_true e,h2,h3]
    by_cases q : a.drop (j + 1) = b.drop (j + 1)
    ·rw [if_pos q,if_pos (hm.2 ⟨e,q⟩)]
    ·rw [if_neg q,if_neg fun w => q (hm.1 w).2]
   ·simp only [Option.bind_some,h1,gI_at h,gI_at h',decide_eq_false e]
    rw [if_neg fun w => e (hm.1 w).1]
  ·have h1 : decide ((j : Int) < (a.length : Int)) = false := decide_eq_false (by omega)
   simp only [Option.bind_some,h1]
   rw [if_pos (by rw [List.drop_of_length_le (by omega : a.length ≤ j),List.drop_of_length_le (by omega : b.length ≤ j)])]
end
theorem alike_loop {F : Nat} {a b : List (Int × Int)} {K : Unit → Option Bool} (hl : a.length = b.length) (hb : a.length < 1000000000) : ∀ (n j : Nat),j ≤ a.length → a.length - j < n → f39_L0 F a b K n (j : Int) = if a.drop j = b.drop j then K () else some false := by
 intro n
 induction n with
 | zero => intro j hj hn; omega
 | succ n ih =>
  intro j hj hn
  rw [f39_L0]
  by_cases h : j < a.length
  ·have h' : j < b.length := by omega
   have h1 : decide ((j : Int) < (a.length : Int)) = true := decide_eq_true (by omega)
   have h2 := wrap_nat (show j < 1000000000000 by omega)
   have h3 := ih (j + 1) (by omega) (by omega)
   have hm : a.drop j = b.drop j ↔ (a[j] = b[j] ∧ a.drop (j + 1) = b.drop (j + 1)) := by rw [drop_at h,drop_at h',List.cons.injEq]
   by_cases e : a[j] = b[j]
   ·have e1 : (decide (a[j].1 = b[j].1) && decide (a[j].2 = b[j].2)) = true := by rw [e]; simp
    simp only [Option.bind_some,h1,gI_at h,gI_at h',e1,h2,h3]
    by_cases q : a.drop (j + 1) = b.drop (j + 1)
    ·rw [if_pos q,if_pos (hm.2 ⟨e,q⟩)]
    ·rw [if_neg q,if_neg fun w => q (hm.1 w).2]
   ·have e' : (decide (a[j].1 = b[j].1) && decide (a[j].2 = b[j].2)) = false := by
     rw [Bool.and_eq_false_iff,decide_eq_false_iff_not,decide_eq_false_iff_not]
     by_cases q : a[j].1 = b[j].1
     ·exact .inr fun w => e (Prod.ext q w)
     ·exact .inl q
    simp only [Option.bind_some,h1,gI_at h,gI_at h',e']
    rw [if_neg fun w => e (hm.1 w).1]
  ·have h1 : decide ((j : Int) < (a.length : Int)) = false := decide_eq_false (by omega)
   simp only [Option.bind_some,h1]
   rw [if_pos (by rw [List.drop_of_length_le (by omega : a.length ≤ j),List.drop_of_length_le (by omega : b.length ≤ j)])]
theorem same22_is {a0 : Bool} {c0 : Ck} {p0 : List Int} {a1 : Bool} {c1 : Ck} {p1 : List Int} {hp : List (Option (List PV))} {r : Bool} (h : sameO p0 p1 = some r) : E Tryd.prog Y0 22 [.l (ak a0) c0 p0.length (p0.map iv),.l (ak a1) c1 p1.length (p1.map iv)] hp = some (.v (.bool r),hp,none) := by
 obtain ⟨h1,rfl⟩ := sameO_ok h
 refine f22_is (F := p0.length + 1) ?_
 unfold f22S
 by_cases hl : p0.length = p1.length
 ·have q := same22_loop (F := p0.length + 1) (K := fun _ => some true) hl (by omega) (p0.length + 1) 0 (by omega) (by omega)
  rw [show ((0 : Nat) : Int) = 0 from rfl,List.drop_zero,List.drop_zero] at q
  simp only [Option.bind_some]
  rw [decide_eq_true (show (p0.length : Int) = p1.length by omega)]
  simp only []
  rw [q]
  by_cases w : p0 = p1
  ·rw [if_pos w,decide_eq_true w]
  ·rw [if_neg w,decide_eq_false w]
 ·have : ¬ p0 = p1 := fun e => hl (by rw [e])
  have h2 : decide ((p0.length : Int) = (p1.length : Int)) = false := decide_eq_false (by omega)
  simp only [Option.bind_some,h2,decide_eq_false this]
theorem same70_is {a0 : Bool} {c0 : Ck} {p0 : List Int} {a1 : Bool} {c1 : Ck} {p1 : List Int} {hp : List (Option (List PV))} {r : Bool} (h : sameO p0 p1 = some r) : E Tryd.prog Y0 70 [.l (ak a0) c0 p0.length (p0.map iv),.l (ak a1) c1 p1.length (p1.map iv)] hp = some (.v (.bool r),hp,none) := by
 obtain ⟨h1,rfl⟩ := sameO_ok h
 refine f70_is (F := p0.length + 1) ?_
 unfold f70S
 by_cases hl : p0.length = p1.length
 ·simp only [Option.bind_some]
  have := same70_loop (F := p0.length + 1) (K := fun _ => some true) rfl hl (by omega) (p0.length + 1) 0 (by omega) (by omega)
  rw [decide_eq_true (show (p0.length : Int) = p1.length by omega)]
  simp only []
  rw [show ((0 : Nat) : Int) = 0 from rfl,List.drop_zero,List.drop_zero] at this
  rw [this]
  by_cases w : p0 = p1
  ·rw [if_pos w,decide_eq_true w]
  ·rw [if_neg w,decide_eq_false w]
 ·have : ¬ p0 = p1 := fun e => hl (by rw [e])
  have h2 : decide ((p0.length : Int) = (p1.length : Int)) = false := decide_eq_false (by omega)
  simp only [Option.bind_some,h2,decide_eq_false this]
theorem alike_is {a0 : Bool} {c0 : Ck} {p0 : List (Int × Int)} {a1 : Bool} {c1 : Ck} {p1 : List (Int × Int)} {hp : List (Option (List PV))} {r : Bool} (h : sameO p0 p1 = some r) : E Tryd.prog Y0 39 [.l (ak a0) c0 p0.length (rows p0),.l (ak a1) c1 p1.length (rows p1)] hp = some (.v (.bool r),hp,none) := by
 obtain ⟨h1,rfl⟩ := sameO_ok h
 refine f39_is (F := p0.length + 1) ?_
 unfold f39S
 by_cases hl : p0.length = p1.length
 ·have q := alike_loop (F := p0.length + 1) (K := fun _ => some true) hl (by omega) (p0.length + 1) 0 (by omega) (by omega)
  rw [show ((0 : Nat) : Int) = 0 from rfl,List.drop_zero,List.drop_zero] at q
  simp only [Option.bind_some]
  rw [decide_eq_true (show (p0.length : Int) = p1.length by omega)]
  simp only []
  rw [q]
  by_cases w : p0 = p1
  ·rw [if_pos w,decide_eq_true w]
  ·rw [if_neg w,decide_eq_false w]
 ·have : ¬ p0 = p1 := fun e => hl (by rw [e])
  have h2 : decide ((p0.length : Int) = (p1.length : Int)) = false := decide_eq_false (by omega)
  simp only [Option.bind_some,h2,decide_eq_false this]
end Go.Proofs.YtcjephdjemapbaaDoor
set_option linter.unusedSimpArgs false
set_option linter.unusedVariables false
namespace Go.Proofs.YtcjephdjemapbaaDoor
open Go.Abs Go.Pur
set_option maxRecDepth 100000
set_option maxHeartbeats 2000000
attribute [local simp] Go.Pur.EK_region Go.Pur.EK_seq Go.Pur.EK_cond Go.Pur.EK_block Go.Pur.EK_blk Go.Pur.EK_loop Go.Pur.EK_exit EK.ex Go.Pur.EK_ret Go.Pur.EK_skip Go.Pur.EK_nil Go.Pur.EO_cons Go.Pur.EO_nil Go.Pur.EO1_true Go.Pur.EO1_false Go.Pur.EO2_some Go.Pur.EO3_some Go.Pur.EB_true Go.Pur.EB_false Go.Pur.pwanted Go.Pur.poper Go.Pur.pq Go.Pur.pev Go.Pur.look Go.Pur.pputT Go.Pur.isAssign Go.Pur.drOf Go.Pur.pinit Go.Abs.Tr.get_set Go.Pur.lget Go.Pur.pvOf_int Go.Pur.pvOf_bool Go.Pur.pvOf_str Go.Pur.pvOf_nil Go.Pur.rdv_ak Go.Pur.notOwn_ak Go.Pur.prt_ak Go.Pur.loose_ak Go.Pur.rdv_own Go.Pur.rdv_fz Go.Pur.rdv_bor Go.Pur.rdv_rf Go.Pur.rdv_pt Go.Pur.rdv_v Go.Pur.rdv_a Go.Pur.rdv_t Go.Pur.rdv_r Go.Pur.rdv_p Go.Pur.rdv_s Go.Pur.rdv_f Go.Pur.pbin Go.Pur.plen Go.Pur.pload Go.Pur.ppart Go.Pur.idxAddr Go.Pur.pcond Nat.blt Go.Pur.goInt_eq Go.Pur.prun_not Go.Pur.prun_neg Go.Pur.mayLoad Go.Pur.ER_ret Go.Pur.ER_normal Go.Pur.presL Go.Pur.presOne Go.Pur.moved Go.Pur.stor Go.Pur.okDrop Go.Pur.settle_v Go.Pur.settle_l Go.Pur.settle_a Go.Pur.settle_p Go.Pur.settle_f Go.Pur.noref_v Go.Pur.noref_fz Go.Pur.noref_a Go.Pur.norefs_nil Go.Pur.norefs_cons Go.Pur.pclose Go.Pur.given Go.Pur.dropB Y0_keep Go.Pur.pevParts Go.Pur.stors Go.Pur.pvCells pvCells.go Go.Abs.vcells Go.Pur.pfill Go.Pur.reps Go.Pur.zipParts Go.Pur.ownFz Go.Pur.pcells Go.Pur.cellOK Go.Pur.one Go.Pur.psrcLen Go.Pur.srcFits Go.Pur.psrc Go.Pur.takeP Go.Pur.pgrow Go.Pur.take Go.Pur.getPl Go.Pur.setPl Go.Pur.mapL Go.Pur.plEq Go.Pur.elder Go.Pur.isList Go.Pur.lowP Go.Pur.pevs Go.Pur.frzs Go.Pur.addP Go.Pur.partAt Go.Pur.ble_lim24 Go.Pur.killV_v Go.Pur.killV_a Go.Pur.killV_t Go.Pur.killV_f Go.Pur.killV_i Go.Pur.killV_p Go.Pur.killV_s Go.Pur.killV_un Go.Pur.killV_dead Go.Pur.killV_lfz Go.Pur.killV_lbor Go.Pur.killV_lown Go.Pur.killV_rfz Go.Pur.killV_rbor Go.Pur.killV_lak Go.Pur.killV_rak Go.Pur.frzV_v Go.Pur.frzV_a Go.Pur.frzV_t Go.Pur.frzV_f Go.Pur.frzV_i Go.Pur.frzV_p Go.Pur.frzV_s Go.Pur.frzV_un Go.Pur.frzV_dead Go.Pur.frzV_lfz Go.Pur.frzV_lbor Go.Pur.frzV_lown Go.Pur.frzV_rfz Go.Pur.frzV_rbor Go.Pur.frzV_lak Go.Pur.frzV_rak Go.Pur.killCell_v Go.Pur.killCell_a Go.Pur.killCell_t Go.Pur.killCell_f Go.Pur.killCell_i Go.Pur.killCell_p Go.Pur.killCell_s Go.Pur.killCell_un Go.Pur.killCell_dead Go.Pur.killCell_lfz Go.Pur.killCell_lbor Go.Pur.killCell_lown Go.Pur.killCell_rfz Go.Pur.killCell_rbor Go.Pur.killCell_lak Go.Pur.killCell_rak Go.Pur.killV_lrf Go.Pur.killV_lpt Go.Pur.killV_rpt Go.Pur.frzV_lrf Go.Pur.frzV_lpt Go.Pur.frzV_rpt Go.Pur.killCell_lrft Go.Pur.killCell_lptt Go.Pur.killCell_rptt Go.Pur.killCell_lrfc Go.Pur.killCell_lptc Go.Pur.killCell_rptc Go.Pur.argv_lak Go.Pur.argv_rak Go.Pur.argv_v Go.Pur.argv_a Go.Pur.argv_p Go.Pur.argv_f Go.Pur.argv_fz Go.Pur.argv_bor Go.Pur.argv_rf Go.Pur.argv_pt Go.Pur.argv_rc Go.Pur.argv_own Go.Pur.mayTurn_none Go.Pur.argvs Go.Pur.pcallOp Go.Pur.firm Go.Pur.refsTo_v Go.Pur.refsTo_l Go.Pur.refsTo_p Go.Pur.refsTo_s Go.Pur.refsTo_a Go.Pur.refsTo_dead Go.Pur.refsTo_nil Go.Pur.refsTo_cons Go.Pur.isOwn_lak Go.Pur.ownFz_lak Go.Pur.evSafe Go.Pur.pskip Go.Abs.plain Go.Pur.pnewBlk Go.Pur.fldAddr Go.Pur.isOwn Go.Pur.pput Go.Pur.notOwn_fz Go.Pur.notOwn_bor Go.Pur.notOwn_own Go.Pur.notOwn_rf Go.Pur.notOwn_pt Go.Pur.prt_fz Go.Pur.prt_bor Go.Pur.prt_own Go.Pur.prt_rf Go.Pur.prt_pt Go.Pur.freeze Go.Pur.presM Go.Pur.settles Go.Pur.abin_and Go.Pur.abin_or Go.Pur.abin_andNot Go.Pur.abin_mul Go.Pur.abin_shr Go.Pur.abin_shl Go.Pur.abin_add Go.Pur.abin_sub Go.Pur.abin_eql Go.Pur.abin_neq Go.Pur.abin_lss Go.Pur.abin_leq Go.Pur.abin_gtr Go.Pur.abin_geq Go.Pur.hows Go.Pur.pcallIn Y0_how Y0_part howOf partOf Go.Pur.rdv_mown Go.Pur.rdv_mfz Go.Pur.rdv_mbor Go.Pur.rdv_mrf Go.Pur.killV_mown Go.Pur.killV_mfz Go.Pur.killV_mbor Go.Pur.killV_mrf Go.Pur.frzV_mown Go.Pur.frzV_mfz Go.Pur.frzV_mbor Go.Pur.frzV_mrf Go.Pur.killCell_mown Go.Pur.killCell_mfz Go.Pur.killCell_mbor Go.Pur.killCell_mrf Go.Pur.argv_mfz Go.Pur.argv_mbor Go.Pur.argv_mrf Go.Pur.settle_m Go.Pur.kls_v Go.Pur.kls_l Go.Pur.kls_a Go.Pur.kls_t Go.Pur.kls_r Go.Pur.kls_p Go.Pur.kls_s Go.Pur.kls_f Go.Pur.kls_i Go.Pur.kls_it Go.Pur.kls_un Go.Pur.kls_dead Go.Pur.kls_mown Go.Pur.kls_mrf Go.Pur.kls_mbor Go.Pur.kls_mfz Go.Pur.fzOf Go.Pur.takable Go.Pur.mapHere Go.Pur.mapOwn Go.Pur.mapTo Go.Pur.flat Go.Pur.toPlain toPlain.go Go.Pur.ofFlat Go.Pur.ofPair Go.Pur.mapEs Go.Pur.plook Go.Abs.lookRes Y0_mv mvOf Go.Pur.mvBlk Go.Pur.premv Y0_fzm fzmOf Go.Pur.poperX Go.Pur.pconv Go.Pur.mvOp keep18 keep19 keep21 keep23 keep24 keep26 keep36 keep47 keep48 keep49 keep50 keep51 keep56 keep59 keep63 keep64 keep65 keep66 keep67 keep68 keep69 keep82 keep83 sz3 by3 row3 zero3 sz4 by4 row4 zero4 sz5 by5 row5 zero5 sz9 by9 row9 shape9 zero9 sz21 by21 row21 zero21 sz23 by23 row23 shape23 zero23 sz24 by24 row24 zero24 sz38 by38 row38 shape38 zero38 sz47 by47 row47 shape47 zero47 parts47 sz51 by51 row51 zero51 sz54 by54 row54 shape54 zero54 sz55 by55 row55 shape55 zero55 sz58 by58 row58 shape58 zero58 sz60 by60 row60 zero60 sz63 by63 row63 shape63 zero63 sz73 by73 row73 shape73 zero73 parts73 sz79 by79 row79 shape79 zero79 sz81 by81 row81 shape81 zero81 parts81 sz86 by86 row86 shape86 parts86 sz90 by90 row90 zero90 sz92 by92 row92 zero92 sz96 by96 row96 zero96 parts96 field96_0 field96_1 sz99 by99 row99 zero99 sz104 by104 row104 zero104 sz106 by106 row106 zero106 parts106 field106_0 field106_1 sz119 by119 row119 zero119 sz123 by123 row123 zero123 sz124 by124 row124 shape124 zero124 parts124 sz125 by125 row125 shape125 zero125 parts125 sz126 by126 row126 shape126 parts126 sz128 by128 row128 zero128 parts128 field128_0 field128_1 sz129 by129 row129 shape129 zero129 parts129 sz133 by133 row133 zero133 Go.Pur.bs_size Go.Pur.gAt Go.Pur.gAt0 Go.Pur.sAt Go.Pur.sAt0 Go.Pur.optPlain Go.Pur.rows_len Go.Pur.noMaker_eq Go.Abs.kindOf Go.Pur.vlOf Go.Pur.abin_rem Go.Pur.abin_quo Go.Pur.mayTurn_none Go.Pur.lowOf_none Go.Pur.partAt Go.Pur.rows_nil Go.Pur.rows_cons Go.Pur.ble_add Go.Pur.ble_add0 Go.Pur.ble_same Go.Pur.toPlain toPlain.go Go.Pur.intIn2_0 Go.Pur.intIn2_1 Go.Pur.ble12 Go.Pur.ble22 Go.Pur.tv Go.Pur.lv Go.Pur.max_int Go.Pur.min_int Go.Pur.pplains Go.Pur.ak_true Go.Pur.ak_false Go.Pur.apartP Go.Pur.beq_add Go.Pur.beq_add0 Go.Pur.beq_add1 Go.Pur.argv_s Go.Pur.wok_none Go.Pur.wok_low_iff Go.Pur.lowOf_wok
theorem bool_eql_4Ref1 {x y : Operand} {a b : Bool} : abin Tryd.prog .eql 4 x y (.bool a) (.bool b) = some (.bool (a == b)) := by cases a <;> cases b <;> kernel_rfl
theorem conv_3_99Ref1 {z : Int} : prunP Tryd.prog (convert 3 99 (.int .i64 z)) = some (.int .u64 (IntKind.u64.wrap z)) := by kernel_rfl
def f47S (F : Nat) (c0 : Ck) (p0 : List Int) : Option ((Ck × List Int)) :=
  some (c0,p0)
theorem f47_is {c0 : Ck} {p0 : List Int} {hp : List (Option (List PV))} {F : Nat} {r : ((Ck × List Int))}  (h : f47S F c0 p0 = some r) :
    E Tryd.prog Y0 47 [.l .fz c0 p0.length (p0.map iv)] hp = some (.l .fz r.1 r.2.length (r.2.map iv),hp,none) := by
  rw [E_bodyN 1 body47 rfl (by decide) rfl]
  simp only [Tryd.f47,Option.get_some]
  unfold f47S at h
  obtain rfl := inj_ok h
  simp
def f48_L0 (F : Nat) (p0 : List Int) (K : List (Int × Int) → Option ((Ck × List (Int × Int)))) : Nat → List (Int × Int) × Int → Option ((Ck × List (Int × Int)))
  | 0,_ => none
  | n + 1,(v1,v2) => (some (IntKind.i64.wrap (v2 + 1))).bind fun x3 =>
    (some ((p0.length : Int))).bind fun x4 =>
    (some (decide (x3 < x4))).bind fun x5 =>
    (match x5 with
    | true => ((gI p0 v2).bind fun y6 =>
    (gI p0 x3).bind fun y7 =>
    (app1 v1 (y6,y7)).bind fun x8 =>
    (some (IntKind.i64.wrap (v2 + 2))).bind fun x9 =>
    f48_L0 F p0 K n (x8,x9))
    | false => (K v1))
def f48S (F : Nat) (p0 : List Int) : Option ((Ck × List (Int × Int))) :=
  f48_L0 F p0 (fun v10 =>
    some (.nz,v10)) F ([],0)
theorem f48_is {a0 : Bool} {c0 : Ck} {p0 : List Int} {hp : List (Option (List PV))} {F : Nat} {r : ((Ck × List (Int × Int)))}  (h : f48S F p0 = some r) :
    E Tryd.prog Y0 48 [.l (ak a0) c0 p0.length (p0.map iv)] hp = some (.l .own r.1 r.2.length (rows r.2),hp,none) := by
  rw [E_bodyN 1 body48 rfl (by decide) rfl]
  simp only [Tryd.f48,Option.get_some]
  unfold f48S at h
  simp
  have hL0 := h; clear h
  refine loopS (S := f48_L0 F p0) (fun (v1,v2) σ => ∃ (ts : Tr PV) (w : Option Nat),wok hp.length w ∧ σ = ⟨[],ts,hp,w⟩ ∧ ts.get 0 = some (.l (ak a0) c0 p0.length (p0.map iv)) ∧ ts.get 3 = some (.l .own .nz v1.length (rows v1)) ∧ ts.get 4 = some (iv v2) ∧ True) (fun v10 σ => ∃ (ts : Tr PV) (w : Option Nat),wok hp.length w ∧ σ = ⟨[],ts,hp,w⟩ ∧ ts.get 3 = some (.l .own .nz v10.length (rows v10)) ∧ True) (fun _ => rfl) hL0 ?_ ?_ ?_
  · exact ⟨_,_,by simp,rfl,by simp⟩
  · rintro v10 σ ⟨ts,w,hw,rfl,g3,-⟩ h
    clear hL0
    try dsimp only at h
    obtain rfl := inj_ok h
    simp [g3,hw]
  · rintro k n ⟨v1,v2⟩ σ ⟨ts,w,hw,rfl,g0,g3,g4,-⟩ h ih ex
    clear hL0
    rw [f48_L0] at h
    replace h := bindT h; obtain ⟨x3,ex3,h⟩ := h
    replace h := bindT h; obtain ⟨x4,ex4,h⟩ := h
    replace h := bindT h; obtain ⟨x5,ex5,h⟩ := h
    cases x5
    case false =>
     simp [g0,g3,g4,ex3,ex4,ex5]
     refine ex v1 _ ?_ h
     exact ⟨_,_,by simp [hw],rfl,by simp [g0,g3,g4,ex3,ex4,ex5]⟩
    replace h := bind_ok h; obtain ⟨y6,ey6,h⟩ := h
    obtain ⟨ey6a,ey6e,ey6b,ey6c,ey6g⟩ := gI_ok rfl ey6
    replace h := bind_ok h; obtain ⟨y7,ey7,h⟩ := h
    obtain ⟨ey7a,ey7e,ey7b,ey7c,ey7g⟩ := gI_ok rfl ey7
    replace h := bind_ok h; obtain ⟨x8,ex8,h⟩ := h
    obtain ⟨ex8a,ex8b,ex8c,ex8q⟩ := app1_rows ex8
    have ex8b := ex8b 19 (by decide)
    replace h := bindT h; obtain ⟨x9,ex9,h⟩ := h
    simp [g0,g3,g4,ex3,ex4,ex5,ey6a,ey6b,ey6c,ey7a,ey7b,ey7c,ex8a,ex8b,ex8c,ex9]
    all_goals try (generalize hmt : mayTurn _ = mb; obtain rfl : mb = true := hmt.symm.trans (by kernel_rfl); clear hmt)
    all_goals try simp [g0,g3,g4,ex3,ex4,ex5,ey6a,ey6b,ey6c,ey7a,ey7b,ey7c,ex8a,ex8b,ex8c,ex9]
    refine ih (x8,x9) _ ?_ h
    exact ⟨_,_,by simp [hw],rfl,by simp [g0,g3,g4,ex3,ex4,ex5,ey6a,ey6b,ey6c,ey7a,ey7b,ey7c,ex8a,ex8b,ex8c,ex9]⟩
def f18S (F : Nat) (p0 : List UInt8) : Option ((Ck × List Int) × Int) :=
  (some (checkE p0)).bind fun x1 =>
  (some (decide (x1 = 0))).bind fun x3 =>
  (match x3 with
  | true => ((pileO p0).bind fun x4 =>
  some ((x4.1,x4.2),0))
  | false => (some ((.nz,[]),x1)))
theorem f18_is {p0 : List UInt8} {hp : List (Option (List PV))} {F : Nat} {r : ((Ck × List Int) × Int)}  (h : f18S F p0 = some r) :
    E Tryd.prog Y0 18 [.v (.string (bs p0))] hp = some (.t [.l .fz r.1.1 r.1.2.length (r.1.2.map iv),iv r.2],hp,none) := by
  rw [E_bodyN 1 body18 rfl (by decide) rfl]
  simp only [Tryd.f18,Option.get_some]
  unfold f18S at h
  obtain ⟨x1,ex1,h⟩ := bindT h
  have q2 : ∀ hp,E Tryd.prog Y0 27 [.v (.string (bs p0))] hp = some (iv x1,hp,none) := fun hp => f27_is ex1
  obtain ⟨x3,ex3,h⟩ := bindT h
  cases x3
  case false =>
   obtain rfl := inj_ok h
   simp [ex1,q2,ex3]
  obtain ⟨x4,ex4,h⟩ := bind_ok h
  have ex4 : ∀ hp,E Tryd.prog Y0 55 [.v (.string (bs p0))] hp = some (.l .fz x4.1 x4.2.length (x4.2.map iv),hp,none) := fun hp => f55_is ex4
  obtain rfl := inj_ok h
  simp [ex1,q2,ex3,ex4]
def f23S (F : Nat) (p0 : List UInt8) : Option (List UInt8 × Int) :=
  (some (checkE p0)).bind fun x1 =>
  (some (decide (x1 = 0))).bind fun x3 =>
  (match x3 with
  | true => ((creasesO p0).bind fun x4 =>
  some (x4,0))
  | false => (some ([],x1)))
theorem f23_is {p0 : List UInt8} {hp : List (Option (List PV))} {F : Nat} {r : (List UInt8 × Int)}  (h : f23S F p0 = some r) :
    E Tryd.prog Y0 23 [.v (.string (bs p0))] hp = some (.t [.v (.string (bs r.1)),iv r.2],hp,none) := by
  rw [E_bodyN 1 body23 rfl (by decide) rfl]
  simp only [Tryd.f23,Option.get_some]
  unfold f23S at h
  obtain ⟨x1,ex1,h⟩ := bindT h
  have q2 : ∀ hp,E Tryd.prog Y0 27 [.v (.string (bs p0))] hp = some (iv x1,hp,none) := fun hp => f27_is ex1
  obtain ⟨x3,ex3,h⟩ := bindT h
  cases x3
  case false =>
   obtain rfl := inj_ok h
   simp [ex1,q2,ex3]
  obtain ⟨x4,ex4,h⟩ := bind_ok h
  have ex4 : ∀ hp,E Tryd.prog Y0 57 [.v (.string (bs p0))] hp = some (.v (.string (bs x4)),hp,none) := fun hp => f57_is ex4
  obtain rfl := inj_ok h
  simp [ex1,q2,ex3,ex4]
def f66S (F : Nat) (p0 : List UInt8) (p1 : Int) (p2 : Int) : Option (Bool) :=
  (some (IntKind.i64.wrap (p1 + 1))).bind fun x1 =>
  (some (IntKind.u64.wrap x1)).bind fun x2 =>
  (tzO x2).bind fun x3 =>
  (some (IntKind.i64.wrap (p2 + 1))).bind fun x4 =>
  (some (IntKind.u64.wrap x4)).bind fun x5 =>
  (tzO x5).bind fun x6 =>
  (some (decide (x3 = x6))).bind fun x7 =>
  (match x7 with
  | true => ((gS p0 p1).bind fun x8 =>
  (gS p0 p2).bind fun x9 =>
  (some (decide (x8 = x9))).bind fun x10 =>
  (some (IntKind.i64.wrap (p2 - p1))).bind fun x11 =>
  (shrO .i64 x11 x3).bind fun x12 =>
  (some (Int.tmod x12 4)).bind fun x13 =>
  (some (decide (x13 = 2))).bind fun x14 =>
  (some ((x10 == x14))).bind fun x15 =>
  some x15)
  | false => (some false))
theorem f66_is {p0 : List UInt8} {p1 : Int} {p2 : Int} {hp : List (Option (List PV))} {F : Nat} {r : (Bool)}  (h : f66S F p0 p1 p2 = some r) :
    E Tryd.prog Y0 66 [.v (.string (bs p0)),iv p1,iv p2] hp = some (.v (.bool r),hp,none) := by
  rw [E_bodyN 3 body66 rfl (by decide) rfl]
  simp only [Tryd.f66,Option.get_some]
  unfold f66S at h
  obtain ⟨x1,ex1,h⟩ := bindT h
  obtain ⟨x2,ex2,h⟩ := bindT h
  obtain ⟨x3,ex3,h⟩ := bind_ok h
  have ex3 : ∀ hp,E Tryd.prog Y0 87 [kv .u64 x2] hp = some (iv x3,hp,none) := fun hp => f87_is ex3
  obtain ⟨x4,ex4,h⟩ := bindT h
  obtain ⟨x5,ex5,h⟩ := bindT h
  obtain ⟨x6,ex6,h⟩ := bind_ok h
  have ex6 : ∀ hp,E Tryd.prog Y0 87 [kv .u64 x5] hp = some (iv x6,hp,none) := fun hp => f87_is ex6
  obtain ⟨x7,ex7,h⟩ := bindT h
  cases x7
  case false =>
   obtain rfl := inj_ok h
   simp [ex1,conv_3_99Ref1,ex2,ex3,ex4,ex5,ex6,ex7]
  obtain ⟨x8,ex8,h⟩ := bind_ok h
  have ex8 := (gS_ok (P := Tryd.prog) (t := 9) (k := .i64) Tryd.underlying9 shape9 ex8).1
  obtain ⟨x9,ex9,h⟩ := bind_ok h
  have ex9 := (gS_ok (P := Tryd.prog) (t := 9) (k := .i64) Tryd.underlying9 shape9 ex9).1
  obtain ⟨x10,ex10,h⟩ := bindT h
  obtain ⟨x11,ex11,h⟩ := bindT h
  obtain ⟨x12,ex12,h⟩ := bind_ok h
  obtain ⟨ex12a,ex12⟩ := shrO_ok ex12
  obtain ⟨x13,ex13,h⟩ := bindT h
  obtain ⟨x14,ex14,h⟩ := bindT h
  obtain ⟨x15,ex15,h⟩ := bindT h
  obtain rfl := inj_ok h
  simp [ex1,conv_3_99Ref1,ex2,ex3,ex4,ex5,ex6,ex7,ex8,ex9,ex10,ex11,ex12,ex12a,ex13,ex14,bool_eql_4Ref1,ex15]
def f68_L0 (F : Nat) (p0 : List Int) (p1 : Int) (x1 : Int) (K : Unit → Option (Int)) : Nat → Int → Option (Int)
  | 0,_ => none
  | n + 1,v2 => (some (decide (v2 < x1))).bind fun x3 =>
    (match x3 with
    | true => ((gI p0 v2).bind fun y4 =>
    (some (decide (p1 = y4))).bind fun x5 =>
    (match x5 with
    | true => (some v2)
    | false => ((some (IntKind.i64.wrap (v2 + 1))).bind fun x6 =>
    f68_L0 F p0 p1 x1 K n x6)))
    | false => (K ()))
def f68S (F : Nat) (p0 : List Int) (p1 : Int) : Option (Int) :=
  (some ((p0.length : Int))).bind fun x1 =>
  f68_L0 F p0 p1 x1 (fun _ =>
    some (-1)) F 0
theorem f68_is {a0 : Bool} {c0 : Ck} {p0 : List Int} {p1 : Int} {hp : List (Option (List PV))} {F : Nat} {r : (Int)}  (h : f68S F p0 p1 = some r) :
    E Tryd.prog Y0 68 [.l (ak a0) c0 p0.length (p0.map iv),iv p1] hp = some (iv r,hp,none) := by
  rw [E_bodyN 2 body68 rfl (by decide) rfl]
  simp only [Tryd.f68,Option.get_some]
  unfold f68S at h
  obtain ⟨x1,ex1,h⟩ := bindT h
  simp [ex1]
  have hL0 := h; clear h
  refine loopS (S := f68_L0 F p0 p1 x1) (fun v2 σ => ∃ (ts : Tr PV) (w : Option Nat),wok hp.length w ∧ σ = ⟨[],ts,hp,w⟩ ∧ ts.get 0 = some (.l (ak a0) c0 p0.length (p0.map iv)) ∧ ts.get 1 = some (iv p1) ∧ ts.get 7 = some (iv x1) ∧ ts.get 8 = some (iv v2) ∧ True) (fun _ σ => ∃ (ts : Tr PV) (w : Option Nat),wok hp.length w ∧ σ = ⟨[],ts,hp,w⟩ ∧ True) (fun _ => rfl) hL0 ?_ ?_ ?_
  · exact ⟨_,_,by simp,rfl,by simp [ex1]⟩
  · rintro ⟨⟩ σ ⟨ts,w,hw,rfl,-⟩ h
    clear hL0
    try dsimp only at h
    obtain rfl := inj_ok h
    simp [hw]
  · rintro k n v2 σ ⟨ts,w,hw,rfl,g0,g1,g7,g8,-⟩ h ih ex
    clear hL0
    rw [f68_L0] at h
    obtain ⟨x3,ex3,h⟩ := bindT h
    cases x3
    case false =>
     simp [g0,g1,g7,g8,ex3]
     refine ex () _ ?_ h
     exact ⟨_,_,by simp [hw],rfl,by simp [g0,g1,g7,g8,ex3]⟩
    obtain ⟨y4,ey4,h⟩ := bind_ok h
    obtain ⟨ey4a,ey4e,ey4b,ey4c,ey4g⟩ := gI_ok rfl ey4
    obtain ⟨x5,ex5,h⟩ := bindT h
    cases x5
    case true =>
     obtain rfl := inj_ok h
     simp [g0,g1,g7,g8,ex3,ey4a,ey4b,ey4c,ex5,hw]
    obtain ⟨x6,ex6,h⟩ := bindT h
    simp [g0,g1,g7,g8,ex3,ey4a,ey4b,ey4c,ex5,ex6]
    refine ih x6 _ ?_ h
    exact ⟨_,_,by simp [hw],rfl,by simp [g0,g1,g7,g8,ex3,ey4a,ey4b,ey4c,ex5,ex6]⟩
def f68b_L0 (F : Nat) (p0 : List Int) (p1 : Int) (x1 : Int) (K : Unit → Option (Int)) : Nat → Int → Option (Int)
  | 0,_ => none
  | n + 1,v2 => (some (decide (v2 < x1))).bind fun x3 =>
    (match x3 with
    | true => ((gI p0 v2).bind fun y4 =>
    (some (decide (p1 = y4))).bind fun x5 =>
    (match x5 with
    | true => (some v2)
    | false => ((some (IntKind.i64.wrap (v2 + 1))).bind fun x6 =>
    f68b_L0 F p0 p1 x1 K n x6)))
    | false => (K ()))
def f68bS (F : Nat) (p0 : List Int) (p1 : Int) : Option (Int) :=
  (some ((p0.length : Int))).bind fun x1 =>
  f68b_L0 F p0 p1 x1 (fun _ =>
    some (-1)) F 0
theorem f68b_is {b0 d0 : Nat} {p0 : List Int} {p1 : Int} {hp : List (Option (List PV))} {F : Nat} {r : (Int)} (hb0 : hp[b0]? = some (some (p0.map iv))) (h : f68bS F p0 p1 = some r) :
    E Tryd.prog Y0 68 [.s b0 0 p0.length d0,iv p1] hp = some (iv r,hp,none) := by
  rw [E_bodyN 2 body68 rfl (by decide) rfl]
  simp only [Tryd.f68,Option.get_some]
  unfold f68bS at h
  have hlb0 : p0.length = p0.length := rfl
  obtain ⟨x1,ex1,h⟩ := bindT h
  simp [hb0,ex1]
  have hL0 := h; clear h
  refine loopS (S := f68b_L0 F p0 p1 x1) (fun v2 σ => ∃ (ts : Tr PV) (w : Option Nat),wok hp.length w ∧ σ = ⟨[],ts,hp,w⟩ ∧ ts.get 0 = some (.s b0 0 p0.length d0) ∧ ts.get 1 = some (iv p1) ∧ ts.get 7 = some (iv x1) ∧ ts.get 8 = some (iv v2) ∧ True) (fun _ σ => ∃ (ts : Tr PV) (w : Option Nat),wok hp.length w ∧ σ = ⟨[],ts,hp,w⟩ ∧ True) (fun _ => rfl) hL0 ?_ ?_ ?_
  · exact ⟨_,_,by simp,rfl,by simp [hb0,ex1]⟩
  · rintro ⟨⟩ σ ⟨ts,w,hw,rfl,-⟩ h
    clear hL0
    try dsimp only at h
    obtain rfl := inj_ok h
    simp [hb0,hw]
  · rintro k n v2 σ ⟨ts,w,hw,rfl,g0,g1,g7,g8,-⟩ h ih ex
    clear hL0
    rw [f68b_L0] at h
    obtain ⟨x3,ex3,h⟩ := bindT h
    cases x3
    case false =>
     simp [g0,g1,g7,g8,hb0,ex3]
     refine ex () _ ?_ h
     exact ⟨_,_,by simp [hw],rfl,by simp [g0,g1,g7,g8,hb0,ex3]⟩
    obtain ⟨y4,ey4,h⟩ := bind_ok h
    obtain ⟨ey4a,ey4e,ey4b,ey4c,ey4g⟩ := gI_ok hlb0 ey4
    obtain ⟨x5,ex5,h⟩ := bindT h
    cases x5
    case true =>
     obtain rfl := inj_ok h
     simp [g0,g1,g7,g8,hb0,ex3,ey4a,ey4b,ey4c,ex5,hw]
    obtain ⟨x6,ex6,h⟩ := bindT h
    simp [g0,g1,g7,g8,hb0,ex3,ey4a,ey4b,ey4c,ex5,ex6]
    refine ih x6 _ ?_ h
    exact ⟨_,_,by simp [hw],rfl,by simp [g0,g1,g7,g8,hb0,ex3,ey4a,ey4b,ey4c,ex5,ex6]⟩
def f69_L0 (F : Nat) (p0 : List Int) (K : Int → Option (Int)) : Nat → Int × Int → Option (Int)
  | 0,_ => none
  | n + 1,(v4,v5) => (some ((p0.length : Int))).bind fun x6 =>
    (some (decide (v5 < x6))).bind fun x7 =>
    (match x7 with
    | true => ((gI p0 v5).bind fun y8 =>
    (some (max v4 y8)).bind fun x9 =>
    (some (IntKind.i64.wrap (v5 + 1))).bind fun x10 =>
    f69_L0 F p0 K n (x9,x10))
    | false => (K v4))
def f69S (F : Nat) (p0 : List Int) : Option (Int) :=
  (some ((p0.length : Int))).bind fun x1 =>
  (some (decide (x1 < 1))).bind fun x2 =>
  (match x2 with
  | true => (none)
  | false => ((gI p0 0).bind fun y3 =>
  f69_L0 F p0 (fun v11 =>
    some v11) F (y3,1)))
theorem f69_is {a0 : Bool} {c0 : Ck} {p0 : List Int} {hp : List (Option (List PV))} {F : Nat} {r : (Int)}  (h : f69S F p0 = some r) :
    E Tryd.prog Y0 69 [.l (ak a0) c0 p0.length (p0.map iv)] hp = some (iv r,hp,none) := by
  rw [E_bodyN 1 body69 rfl (by decide) rfl]
  simp only [Tryd.f69,Option.get_some]
  unfold f69S at h
  obtain ⟨x1,ex1,h⟩ := bindT h
  obtain ⟨x2,ex2,h⟩ := bindT h
  cases x2
  case true =>
   cases h
  obtain ⟨y3,ey3,h⟩ := bind_ok h
  obtain ⟨ey3a,ey3b,ey3c⟩ := gI_lit (k := 0) rfl ey3
  have ey3a : ∀ j,intIn p0.length (.int j 0) = some 0 := ey3a
  simp [ex1,ex2,ey3a,ey3b,ey3c]
  have hL0 := h; clear h
  refine loopS (S := f69_L0 F p0) (fun (v4,v5) σ => ∃ (ts : Tr PV) (w : Option Nat),wok hp.length w ∧ σ = ⟨[],ts,hp,w⟩ ∧ ts.get 0 = some (.l (ak a0) c0 p0.length (p0.map iv)) ∧ ts.get 3 = some (iv v4) ∧ ts.get 4 = some (iv v5) ∧ True) (fun v11 σ => ∃ (ts : Tr PV) (w : Option Nat),wok hp.length w ∧ σ = ⟨[],ts,hp,w⟩ ∧ ts.get 3 = some (iv v11) ∧ True) (fun _ => rfl) hL0 ?_ ?_ ?_
  · exact ⟨_,_,by simp,rfl,by simp [ex1,ex2,ey3a,ey3b,ey3c]⟩
  · rintro v11 σ ⟨ts,w,hw,rfl,g3,-⟩ h
    clear hL0
    try dsimp only at h
    obtain rfl := inj_ok h
    simp [g3,hw]
  · rintro k n ⟨v4,v5⟩ σ ⟨ts,w,hw,rfl,g0,g3,g4,-⟩ h ih ex
    clear hL0
    rw [f69_L0] at h
    obtain ⟨x6,ex6,h⟩ := bindT h
    obtain ⟨x7,ex7,h⟩ := bindT h
    cases x7
    case false =>
     simp [g0,g3,g4,ex6,ex7]
     refine ex v4 _ ?_ h
     exact ⟨_,_,by simp [hw],rfl,by simp [g0,g3,g4,ex6,ex7]⟩
    obtain ⟨y8,ey8,h⟩ := bind_ok h
    obtain ⟨ey8a,ey8e,ey8b,ey8c,ey8g⟩ := gI_ok rfl ey8
    obtain ⟨x9,ex9,h⟩ := bindT h
    obtain ⟨x10,ex10,h⟩ := bindT h
    simp [g0,g3,g4,ex6,ex7,ey8a,ey8b,ey8c,ex9,ex10]
    refine ih (x9,x10) _ ?_ h
    exact ⟨_,_,by simp [hw],rfl,by simp [g0,g3,g4,ex6,ex7,ey8a,ey8b,ey8c,ex9,ex10]⟩
def f64_L0 (F : Nat) (l4 : List (List UInt8)) (K : List (List UInt8) → Option ((Ck × List (List UInt8)))) : Nat → List (List UInt8) × Int → Option ((Ck × List (List UInt8)))
  | 0,_ => none
  | n + 1,(v6,v7) => (some ((l4.length : Int))).bind fun x8 =>
    (some (decide (v7 < x8))).bind fun x9 =>
    (match x9 with
    | true => ((gI l4 v7).bind fun y10 =>
    (sadd y10 [111]).bind fun x11 =>
    (sadd y10 [117]).bind fun x12 =>
    (appL v6 [x11,x12]).bind fun x13 =>
    (some (IntKind.i64.wrap (v7 + 1))).bind fun x14 =>
    f64_L0 F l4 K n (x13,x14))
    | false => (K v6))
def f64S (F : Nat) : Nat → Int → Option ((Ck × List (List UInt8)))
  | 0,_ => none
  | D + 1,p0 =>
    (some (decide (p0 = 0))).bind fun x1 =>
    (match x1 with
    | true => (some (.full,[[]]))
    | false => ((some (IntKind.i64.wrap (p0 - 1))).bind fun x2 =>
    (f64S F D x2).bind fun (c3,l4) =>
    f64_L0 F l4 (fun v15 =>
      some (.nz,v15)) F ([],0)))
end Go.Proofs.YtcjephdjemapbaaDoor
