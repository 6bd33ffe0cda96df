/-
  A region in the order of the text; a call: what the abstract evaluator says of them,the model does.
  What a run of the abstract evaluator leaves of a heap,without any world: blocks below its mark stay as they were.
  A region that draws its order: one walk of the text's order serves every order.
  A run of the abstract evaluator that ends well stands for every run of the model: the theorem 'sound_call'.
  From a run of the abstract evaluator to the row's own words: a heap of known blocks,and a call that answers true.
  Conditions: none; definitions and lemmas.
-/
import Derived.Below
import Derived.ChangeSame
import Derived.Lib.LaidTab
import Derived.LoopN
import Derived.OpenShut
import Derived.ProofKit
import Derived.Test.YtmnmfmghmenkkaaDoorAbsA
set_option linter.unusedSimpArgs false
set_option linter.unusedVariables false
set_option linter.unusedSectionVars false
namespace Go.Abs
section
variable {P : Program}
def CallOK (P : Program) (call : CallF) : Prop := ∀ f args h v h',call f args h = some (v,h') → (bodyOf P f).isSome = true ∧ ∀ m w args',Rel P m h w → LRel m args args' →
  Calls P f args'.toArray w (fun e w' => ∃ m' v',e = .returned v' ∧ VRel m' v v' ∧ Rel P m' h' w' ∧ Sim m h w m' h' w')
theorem run_callFunc {f : FuncId} {args : Array Value} {w : World} (hb : (bodyOf P f).isSome = true) : (callFunc f args).run P w = .ok (.enter f args) w := by
  unfold bodyOf at hb
  cases hf : P.funcs[f]? with
  | none => simp [hf] at hb
  | some fn =>
    simp only [hf] at hb
    cases hc : fn.body with
    | none => simp [hc] at hb
    | some c =>
      cases hn : (fn.name == "runtime.NumGoroutine" : Bool) with
      | true => simp [hc,hn] at hb
      | false =>
        have hn' : ¬ fn.name = "runtime.NumGoroutine" := by simpa using hn
        simp [callFunc,hf,hn',hc]
variable {m : BMap} {h : AHeap} {w : World} {nt : Nat} {ts : Tr Value} {a : Act}
theorem upon_value {o : Oper} {v : Value} {w' : World} {next : Act → World → Prop} {Q : Exit → Act → World → Prop} (hr : (execOp a.eval o).run P w = .ok (.value v) w') (hn : next (a.put o.dst v) w') : o.wp P a w next Q := by
  unfold Oper.wp
  rw [hr]
  exact hn
theorem aloud_wp (hR : Rel P m h w) (hT : TRel m nt ts a) (o : Oper) {v : Value} {h' : AHeap} (hq : aloud P o.op ts h = some (v,h')) {next : Act → World → Prop} {Q : Exit → Act → World → Prop}
    (hn : ∀ m' v' w',VRel m' v v' → Rel P m' h' w' → Sim m h w m' h' w' → next (a.put o.dst v') w') : o.wp P a w next Q := by
  have hG := hR.glob
  obtain ⟨dst,op,type,pos,after,guard⟩ := o
  have upd : ∀ (mm k x : Operand) (t : TypeId),(∀ (r : Nat) (kv vv : Value) (w' : World),(Instr.mapUpdate t (a.eval mm) (a.eval k) (a.eval x)).run P w = .ok () w' → (execOp a.eval ⟨dst,op,type,pos,after,guard⟩).run P w = .ok .skip w') →
      aloud P (.mapUpdate t mm k x) ts h = some (v,h') → Oper.wp P ⟨dst,op,type,pos,after,guard⟩ a w next Q := fun mm k x t hex hq => by
    simp only [aloud] at hq
    split at hq
    · rename_i mv kv xv hm hk hx
      split at hq
      · rename_i hp
        simp only [Bool.and_eq_true] at hp
        obtain ⟨r,es,c,es',c',e1,g1,g2,g3,g4⟩ := amapTo_rel hR (ev_rel hT hG hm) hq
        split at g2
        · rename_i es2 c2 hd
          cases g2
          have hk' := (ev_rel hT hG hk).inv_plainV hp.1
          have hx' := (ev_rel hT hG hx).inv_plainV hp.2
          unfold Oper.wp
          rw [hex r kv xv _ (by rw [e1,hk',hx']; exact aupd_run g1 hd)]
          exact hn m undef _ (.undef m) g3 g4
        · cases g2
      · cases hq
    · cases hq
  cases op with
  | store t x y =>
    simp only [aloud] at hq
    split at hq
    · rename_i p u hp hu
      split at hq
      · rename_i h1 hs
        cases hq
        obtain ⟨w',r1,r2,r3⟩ := astore_rel hR (ev_rel hT hG hp) (ev_rel hT hG hu) hs
        unfold Oper.wp
        have : (execOp a.eval ⟨dst,.store t x y,type,pos,after,guard⟩).run P w = .ok .skip w' := by simp [execOp,r1]
        rw [this]
        exact hn m undef w' (.undef m) r2 r3
      · cases hq
    · cases hq
  | call c =>
    obtain ⟨callee,args,types⟩ := c
    cases callee with
    | value f => simp only [aloud] at hq; cases hq
    | invoke r s => simp only [aloud] at hq; cases hq
    | builtin b =>
      cases b <;> try (simp only [aloud] at hq; cases hq; done)
      case append =>
        simp only [aloud] at hq
        split at hq
        · rename_i s x hargs
          have hl := evs_rel hT hG hargs
          rcases hl.ind with ⟨hl,_⟩ | ⟨_,s',_,r,h1,h2,hs,hl⟩
          · cases hl
          · cases h1
            rcases hl.ind with ⟨hl,_⟩ | ⟨_,x',_,r',h1,rfl,hx,hl⟩
            · cases hl
            · cases h1
              rcases hl.ind with ⟨_,rfl⟩ | ⟨_,_,_,_,h1,_⟩
              · obtain ⟨m',v',w',r1,r2,r3,r4⟩ := aappend_rel (ty := type) hR hs hx hq
                refine upon_value ?_ (hn m' v' w' r2 r3 r4)
                have e : args.map a.eval = #[s',x'] := by apply Array.ext'; simpa using h2
                simp [execOp,resolve,invoke,builtin,e,r1]
              · cases h1
        · cases hq
      case copy =>
        simp only [aloud] at hq
        split at hq
        · rename_i s x hargs
          have hl := evs_rel hT hG hargs
          rcases hl.ind with ⟨hl,_⟩ | ⟨_,s',_,r,h1,h2,hs,hl⟩
          · cases hl
          · cases h1
            rcases hl.ind with ⟨hl,_⟩ | ⟨_,x',_,r',h1,rfl,hx,hl⟩
            · cases hl
            · cases h1
              rcases hl.ind with ⟨_,rfl⟩ | ⟨_,_,_,_,h1,_⟩
              · obtain ⟨v',w',r1,r2,r3,r4⟩ := acopy_rel (ty := type) hR hs hx hq
                refine upon_value ?_ (hn m v' w' r2 r3 r4)
                have e : args.map a.eval = #[s',x'] := by apply Array.ext'; simpa using h2
                simp [execOp,resolve,invoke,builtin,e,r1]
              · cases h1
        · cases hq
      case clear =>
        simp only [aloud] at hq
        split at hq
        · rename_i x t hargs ht
          have hl := evs_rel hT hG hargs
          rcases hl.ind with ⟨hl,_⟩ | ⟨_,x',_,r,h1,h2,hx,hl⟩
          · cases hl
          · cases h1
            rcases hl.ind with ⟨_,rfl⟩ | ⟨_,_,_,_,h1,_⟩
            · obtain ⟨v',w',r1,r2,r3,r4⟩ := aclear_rel (ty := type) hR ht hx hq
              refine upon_value ?_ (hn m v' w' r2 r3 r4)
              have e : args.map a.eval = #[x'] := by apply Array.ext'; simpa using h2
              simp [execOp,resolve,invoke,builtin,e,r1]
            · cases h1
        · cases hq
      case delete =>
        simp only [aloud] at hq
        split at hq
        · rename_i s x t hargs ht
          have hl := evs_rel hT hG hargs
          rcases hl.ind with ⟨hl,_⟩ | ⟨_,s',_,r,h1,h2,hs,hl⟩
          · cases hl
          · cases h1
            rcases hl.ind with ⟨hl,_⟩ | ⟨_,x',_,r',h1,rfl,hx,hl⟩
            · cases hl
            · cases h1
              rcases hl.ind with ⟨_,rfl⟩ | ⟨_,_,_,_,h1,_⟩
              · split at hq
                · rename_i hp
                  obtain rfl := hx.inv_plainV hp
                  obtain ⟨r,es,c,es',c',rfl,g1,g2,g3,g4⟩ := amapTo_rel hR hs hq
                  split at g2
                  · rename_i es2 hd
                    cases g2
                    refine upon_value ?_ (hn m (.tuple #[]) _ (.undef m) g3 g4)
                    have e : args.map a.eval = #[.map (some r),x'] := by apply Array.ext'; simpa using h2
                    simp [execOp,resolve,invoke,builtin,e,adel_run (ty := type) ht g1 hd]
                  · cases g2
                · cases hq
              · cases h1
        · cases hq
  | range t x =>
    simp only [aloud] at hq
    cases hx : ev P ts x with
    | none =>
      rw [hx] at hq
      unfold arange at hq
      split at hq
      · rename_i h1; cases h1
      · cases hq
    | some u =>
      rw [hx] at hq
      have hu := ev_rel hT hG hx
      have hs : ∃ s,u = .string s := by
        unfold arange at hq
        split at hq
        · rename_i s1 _ h1; cases h1; exact ⟨_,rfl⟩
        · cases hq
      obtain ⟨s,rfl⟩ := hs
      obtain ⟨m',v',w',r1,r2,r3,r4⟩ := arange_rel hR hq
      refine upon_value ?_ (hn m' v' w' r2 r3 r4)
      simp [execOp,hu.inv_string,r1]
  | next x isStr =>
    simp only [aloud] at hq
    cases hx : ev P ts x with
    | none =>
      rw [hx] at hq
      unfold anext at hq
      split at hq
      · rename_i h1; cases h1
      · cases hq
    | some u =>
      rw [hx] at hq
      obtain ⟨v',w',r1,r2,r3,r4⟩ := anext_rel (ty := type) hR (ev_rel hT hG hx) hq
      refine upon_value ?_ (hn m v' w' r2 r3 r4)
      simp [execOp,r1]
  | makeMap t r =>
    simp only [aloud] at hq
    split at hq
    · rename_i hk
      cases hq
      obtain ⟨r1,r2,r3⟩ := amake_rel hR
      refine upon_value ?_ (hn _ _ _ r3 r1 r2)
      cases r with
      | none => simp [execOp,Instr.makeMap,Result.andThen]
      | some x =>
        unfold amake0 at hk
        simp only at hk
        split at hk
        · rename_i kt kd n hty hx
          have hu := mapTy_some (k := kt.1) (e := kt.2) hty
          have hx' := (ev_rel hT hG hx).inv_int
          simp [execOp,Instr.makeMap,run_underlying hu,hx',asInt,asIntOf,Result.andThen]
        · cases hk
    · cases hq
  | mapUpdate t mm k x => exact upd mm k x t (fun r kv vv ws hr => by simp [execOp,hr]) hq
  | insert t mm k x => exact upd mm k x t (fun r kv vv ws hr => by simp [execOp,hr]) hq
  | lookup t mm k ok =>
    simp only [aloud] at hq
    split at hq
    · rename_i mv kv hm hk
      split at hq
      · rename_i es c hat hp
        split at hq
        · rename_i u hl
          cases hq
          obtain ⟨r1,r2⟩ := alook_rel hR (ev_rel hT hG hm) hat hl
          refine upon_value ?_ (hn m _ _ r2 hR (Sim.refl _ _ _))
          have hk' := (ev_rel hT hG hk).inv_plainV hp
          simp [execOp,hk',r1]
        · cases hq
      · cases hq
    · cases hq
  | mapEntry t mm k =>
    simp only [aloud] at hq
    split at hq
    · rename_i mv kv hm hk
      split at hq
      · rename_i hp
        obtain ⟨r,es,c,es',c',e1,g1,g2,g3,g4⟩ := amapTo_rel hR (ev_rel hT hG hm) hq
        obtain ⟨r1,r2⟩ := aent_run (m := m) g1 g2
        refine upon_value ?_ (hn m _ _ r2 g3 g4)
        have hk' := (ev_rel hT hG hk).inv_plainV hp
        simp [execOp,e1,hk',r1]
      · cases hq
    · cases hq
  | entryStore t mm st x =>
    simp only [aloud] at hq
    split at hq
    · rename_i mv sv xv hm hs hx
      split at hq
      · rename_i hp
        simp only [Bool.and_eq_true] at hp
        obtain ⟨r,es,c,es',c',e1,g1,g2,g3,g4⟩ := amapTo_rel hR (ev_rel hT hG hm) hq
        split at g2
        · rename_i es2 hd
          cases g2
          have hx' := (ev_rel hT hG hx).inv_plainV hp.1
          have hs' := (ev_rel hT hG hs).inv_plainV hp.2
          unfold Oper.wp
          have : (execOp a.eval ⟨dst,.entryStore t mm st x,type,pos,after,guard⟩).run P w = .ok .skip (itSet w r (.map es'.toArray c)) := by simp [execOp,e1,hx',hs',aest_run (t := t) g1 hd]
          rw [this]
          exact hn m undef _ (.undef m) g3 g4
        · cases g2
      · cases hq
    · cases hq
  | _ => simp only [aloud] at hq; cases hq
theorem acallOp_wp {call : CallF} (hcall : CallOK P call) (hR : Rel P m h w) (hT : TRel m nt ts a) (o : Oper) {v : Value} {h' : AHeap} (hq : acallOp P call o.op ts h = some (v,h')) {next : Act → World → Prop} {Q : Exit → Act → World → Prop}
    (hn : ∀ m' v' w',VRel m' v v' → Rel P m' h' w' → Sim m h w m' h' w' → next (a.put o.dst v') w') : o.wp P a w next Q := by
  have hG := hR.glob
  obtain ⟨dst,op,type,pos,after,guard⟩ := o
  unfold acallOp at hq
  split at hq
  · rename_i f args types hop
    simp only at hop
    subst hop
    split at hq
    · rename_i g first captured as hf has
      obtain ⟨as',bs',he,ha,hb⟩ := (ev_rel hT hG hf).inv_func
      have hl := evs_rel hT hG has
      obtain ⟨hbody,hc⟩ := hcall _ _ _ _ _ hq
      have hC := hc m w (as'.toList ++ args.toList.map a.eval ++ bs'.toList) hR ((ha.append hl).append hb)
      have hrun : (execOp a.eval ⟨dst,.call ⟨.value f,args,types⟩,type,pos,after,guard⟩).run P w = .ok (.enter g (as'.toList ++ args.toList.map a.eval ++ bs'.toList).toArray) w := by
        have e : (as' ++ args.map a.eval) ++ bs' = (as'.toList ++ args.toList.map a.eval ++ bs'.toList).toArray := by apply Array.ext'; simp
        have hcf := run_callFunc (P := P) (f := g) (args := as' ++ args.map a.eval ++ bs') (w := w) hbody
        simp only [execOp,resolve,Sem.run_bind,Sem.run_pure,he,Deferred.ofValue,Result.andThen_ok,invoke]
        rw [← e]
        exact hcf
      unfold Oper.wp
      rw [hrun]
      exact hC.mono fun e w' ⟨m',v',he,hv,hr,hs⟩ => by subst he; exact hn m' v' w' hv hr hs
    · cases hq
  · cases hq
theorem amq_rel (hR : Rel P m h w) (hT : TRel m nt ts a) (o : Oper) {v : Value} (hq : amq P o.op ts h = some v) : (execOp a.eval o).run P w = .ok (.value v) w ∧ VRel m v v := by
  have hG := hR.glob
  obtain ⟨dst,op,type,pos,after,guard⟩ := o
  cases op with
  | call c =>
    obtain ⟨callee,args,types⟩ := c
    cases callee with
    | value f => cases hq
    | invoke r s => cases hq
    | builtin b =>
      cases b <;> try (cases hq; done)
      case len =>
        simp only [amq] at hq
        split at hq
        · rename_i x t hargs ht
          have hl := evs_rel hT hG hargs
          rcases hl.ind with ⟨hl,_⟩ | ⟨_,x',_,r,h1,h2,hx,hl⟩
          · cases hl
          · cases h1
            rcases hl.ind with ⟨_,rfl⟩ | ⟨_,_,_,_,h1,_⟩
            · split at hq
              · rename_i q es c hty hat
                cases hq
                have hu := mapTy_some (k := q.1) (e := q.2) hty
                refine ⟨?_,.plain _ rfl⟩
                have e : args.map a.eval = #[x'] := by apply Array.ext'; simpa using h2
                rcases mapAt_rel hR hx hat with ⟨_,rfl,rfl⟩ | ⟨r,rfl,hr⟩
                · simp [execOp,resolve,invoke,builtin,e,Builtin.len_,ht,run_underlying hu]
                · simp [execOp,resolve,invoke,builtin,e,Builtin.len_,ht,run_underlying hu,getObj,hr,Sem.run]
              · cases hq
            · cases h1
        · cases hq
  | _ => cases hq
theorem aside_rel (hR : Rel P m h w) (hT : TRel m nt ts a) (o : Oper) {v : Value} {h' : AHeap} (hq : aside P o.op ts h = some (v,h')) : ∃ m' v' w',(execOp a.eval o).run P w = .ok (.value v') w' ∧ VRel m' v v' ∧ Rel P m' h' w' ∧ Sim m h w m' h' w' := by
  have hG := hR.glob
  obtain ⟨dst,op,type,pos,after,guard⟩ := o
  unfold aside at hq
  split at hq
  · rename_i src dst' x hop
    obtain rfl := hop
    split at hq
    · rename_i e s hs hd hx
      split at hq
      · rename_i he
        cases hq
        have hx' := (ev_rel hT hG hx).inv_string
        have hrun := Go.Lib.run_convert_string_bytes (P := P) w src dst' e s hs hd he
        have hsz := Go.Lib.bytesWorld_size w e s
        obtain ⟨r1,r2⟩ := rel_ro (B := ⟨s.data.toList.map fun b => .int .u8 b.toNat,e,false,false⟩) (C := Go.Lib.bytesCells w e s) 0 hR (by simp [Go.Lib.bytesCells]) (fun i hi => by
          have hi' : i < s.data.size := by simpa using hi
          have e1 : (Go.Lib.bytesCells w e s).getD i undef = .int .u8 (s.data[i]).toNat := by
            have hi2 : i < s.size := hi'
            have hi3 : s.data[i]? = some s.data[i] := Array.getElem?_eq_getElem hi'
            simp [Go.Lib.bytesCells,Array.getD_eq_getD_getElem?,Array.getElem?_append,hi2,hi3]
          have e2 : (s.data.toList.map fun b => Value.int .u8 b.toNat).getD i undef = .int .u8 (s.data[i]).toNat := by
            have hi3 : s.data[i]? = some s.data[i] := Array.getElem?_eq_getElem hi'
            simp [List.getD_eq_getElem?_getD,hi3]
          simp only [e1,e2]
          exact .plain _ rfl) rfl rfl (fun r hr => Go.Lib.bytesWorld_at_old w e s r hr) (Go.Lib.bytesWorld_at_new w e s) hsz ⟨rfl,rfl,rfl⟩
        refine ⟨_,.slice (some ⟨w.heap.size,0,none⟩) s.size (grownCap w s.size 0 e),_, ?_, ?_,r1,r2⟩
        · simp only [execOp,hx',Sem.run_bind,hrun,Result.andThen_ok,Sem.run_pure]
        · exact .ro ⟨h.next,0,none⟩ ⟨w.heap.size,0,none⟩ _ _ 0 (grownCap_ge w s.size 0 e) (fun _ => ⟨⟨w.heap.size,0,0⟩,by simp [upd],rfl,rfl,fun hh => absurd rfl hh⟩)
      · cases hq
    · cases hq
  · rename_i t x lo hi hop
    obtain rfl := hop
    split at hq
    · rename_i ad len cap lv hv e hx hlo hhi ht
      split at hq
      · rename_i i b hi0 hcap hb
        split at hq
        · rename_i hh hcond hhh
          split at hq
          · rename_i l hl
            simp only [Bool.and_eq_true] at hcond
            obtain ⟨⟨b1,b2⟩,b3⟩ := hcond
            have b2' := Nat.eq_of_beq_eq_true b2
            rw [Nat.blt_eq] at b3
            obtain rfl := Nat.eq_of_beq_eq_true hcap
            obtain ⟨a',c',hxe,g1,_,_⟩ := (ev_rel hT hG hx).inv_slice
            obtain ⟨L,hm,hsp,rfl,hun,_⟩ := g1 (.inr (by decide))
            obtain ⟨h0,rfl⟩ := hun rfl
            obtain ⟨C,e0,fr,k1,k2,k3,k4,k5⟩ := hR.blk _ _ _ hb hm
            obtain ⟨hwr,hCs⟩ := k5 b1
            rw [b2'] at hCs
            obtain ⟨kk,hv1,hv2⟩ := natOf_some hhh
            have hle : hh ≤ L.cap := by
              refine Nat.le_trans hv2 ?_
              refine Nat.div_le_of_le_mul ?_
              rw [Nat.mul_comm]; omega
            have hl3 := natOfO_some hl
            have hl' : l ≤ hh := by rcases hl3 with ⟨_,q⟩ | ⟨_,_,q⟩ <;> omega
            have elo := optEv_rel hT hG hlo
            have ehi : a.eval hi = hv := by
              have := ev_rel hT hG hhi
              rw [hv1] at this ⊢
              exact this.inv_int
            have hrun := run_sliceBounds (P := P) (w := w) true len L.cap (lo := lv) (hi := some hv) (mx := none) (l := l) (hh := hh) (mm := L.cap) (.inl ⟨rfl,rfl⟩) (.inr ⟨kk,by rw [hv1],hle⟩) hl3
            have hex : (execOp a.eval ⟨dst,.slice t x lo (some hi) none,type,pos,after,guard⟩).run P w = .ok (.value (.slice (if L.cap = l then some ⟨L.b,L.base + ad.off,none⟩ else some (Addr.add ⟨L.b,L.base + ad.off,none⟩ (l * i.size))) (hh - l) (L.cap - l))) w := by
              simp only [execOp,Option.map_some,Option.map_none,elo,ehi,hxe]
              simp only [Instr.sliceAt,Instr.slice,Sem.run_bind,run_underlying ht w,Result.andThen_ok,Sem.run_pure,hrun,run_sizeOf hi0,Option.map_some]
            split at hq
            · rename_i hl0
              cases hq
              have hl0' : l = 0 := Nat.eq_of_beq_eq_true hl0
              subst hl0'
              refine ⟨m,_,w,hex, ?_,hR,Sim.refl _ _ _⟩
              have e0 : (if L.cap = 0 then some (⟨L.b,L.base + ad.off,none⟩ : Addr) else some (Addr.add ⟨L.b,L.base + ad.off,none⟩ (0 * i.size))) = some ⟨L.b,L.base,none⟩ := by
                rw [Nat.zero_mul,h0]; simp [Addr.add]
              rw [e0,Nat.sub_zero,Nat.sub_zero]
              exact .unk ad L hh hm hsp h0 hle
            · rename_i hl0
              cases hq
              have hl0' : l ≠ 0 := Nat.ne_of_beq_eq_false hl0
              refine ⟨m,_,w,hex, ?_,hR,Sim.refl _ _ _⟩
              rcases Nat.lt_or_ge l hh with hlt | hge
              · rw [if_neg (by omega)]
                refine .ro _ _ _ _ i.size (by omega) (fun _ => ⟨L,by rw [add_block]; exact hm,add_spot _ _ hsp, ?_,fun _ => ⟨l, ?_,by omega⟩⟩)
                · simp only [add_lit,add_off,Nat.add_assoc]
                · rw [add_off,h0,Nat.zero_add]
              · have e : hh - l = 0 := by omega
                rw [e]
                split
                · exact .ro _ _ _ _ _ (Nat.zero_le _) (fun hne => absurd rfl hne)
                · exact .ro _ _ _ _ _ (Nat.zero_le _) (fun hne => absurd rfl hne)
          · cases hq
        · cases hq
      · cases hq
    · cases hq
  · cases hq
theorem aoper_wp {call : CallF} (hcall : CallOK P call) (hR : Rel P m h w) (hT : TRel m nt ts a) (o : Oper) {v : Value} {h' : AHeap} (hq : aoper P call o ts h = some (v,h')) {next : Act → World → Prop} {Q : Exit → Act → World → Prop}
    (hn : ∀ m' v' w',VRel m' v v' → Rel P m' h' w' → Sim m h w m' h' w' → next (a.put o.dst v') w') : o.wp P a w next Q := by
  unfold aoper at hq
  split at hq
  · split at hq
    · rename_i u hu
      cases hq
      obtain ⟨v',r1,r2⟩ := aq_rel hR hT o hu
      exact upon_value r1 (hn m v' w r2 hR (Sim.refl _ _ _))
    · split at hq
      · rename_i u hu
        cases hq
        obtain ⟨r1,r2⟩ := amq_rel hR hT o hu
        exact upon_value r1 (hn m _ w r2 hR (Sim.refl _ _ _))
      · obtain ⟨m',v',w',r1,r2,r3,r4⟩ := aside_rel hR hT o hq
        exact upon_value r1 (hn m' v' w' r2 r3 r4)
  · split at hq
    · rename_i u B hu
      cases hq
      obtain ⟨v',C,e,r1,r2,r3,r4,r5⟩ := anew_rel hR hT o (hR.fresh _ (Nat.le_refl _)) hu
      obtain ⟨l1,l2⟩ := lrel_arr r3
      obtain ⟨q1,q2⟩ := rel_alloc (B := B) (C := C) (e := e) (n := w.heap.size) 0 hR (by omega) l2 (fun hh => by rw [r5] at hh; cases hh) rfl (.inl rfl)
      exact upon_value r1 (hn _ v' _ r2 q1 q2)
    · cases hq
  · exact aloud_wp hR hT o hq hn
  · exact acallOp_wp hcall hR hT o hq hn
theorem VRel.to_bool {v : Value} {b : Bool} (h : VRel m v (.bool b)) : v = .bool b := by
  cases h; rfl
theorem wanted_rel (hT : TRel m nt ts a) (ops : Array Oper) (o : Oper) : Region.wanted o (yielded ops a.tmps) = wantedA ops o ts := by
  unfold Region.wanted wantedA
  cases hg : o.guard with
  | none => rfl
  | some q =>
    obtain ⟨j,want⟩ := q
    simp only []
    unfold yielded
    cases hd : (ops[j]?).bind (·.dst) with
    | none => simp
    | some t =>
      simp only [Option.bind_some]
      have hv := hT.val t
      have hnb : ∀ v : Value,v = undef → ∀ b,v ≠ .bool b := fun v hv b h => by rw [hv] at h; cases h
      cases ht : a.tmps[t]? with
      | none =>
        have e : a.tmps.getD t undef = undef := by rw [Array.getD_eq_getD_getElem?,ht]; rfl
        rw [e] at hv
        simp only []
        cases hts : ts.get t with
        | none => rfl
        | some v =>
          cases v <;> try rfl
          rename_i b
          simp only [tget,hts] at hv
          cases hv
      | some u =>
        have e : a.tmps.getD t undef = u := by rw [Array.getD_eq_getD_getElem?,ht]; rfl
        rw [e] at hv
        cases hts : ts.get t with
        | none =>
          simp only [tget,hts] at hv
          cases u <;> try rfl
          cases hv
        | some v =>
          simp only [tget,hts] at hv
          cases u with
          | bool b =>
            obtain rfl := VRel.to_bool hv
            rfl
          | _ =>
            cases v <;> try rfl
            have := hv.inv_bool
            cases this
theorem aops_wp {call : CallF} (hcall : CallOK P call) (ops : Array Oper) : ∀ (l : List Oper) {ts ts' : Tr Value} {h h' : AHeap} {m : BMap} {w : World} {a : Act} {Q : Exit → Act → World → Prop},aops P call nt ops l ts h = some (ts',h') → Rel P m h w → TRel m nt ts a →
    (∀ m' w' a',Rel P m' h' w' → TRel m' nt ts' a' → Sim m h w m' h' w' → Q .normal a' w') → wpList P ops Q l a w
  | [],ts,ts',h,h',m,w,a,Q,hq,hR,hT,hQ => by
    cases hq
    exact hQ m w a hR hT (Sim.refl _ _ _)
  | o :: l,ts,ts',h,h',m,w,a,Q,hq,hR,hT,hQ => by
    unfold wpList
    rw [wanted_rel hT]
    unfold aops at hq
    cases hw : wantedA ops o ts with
    | true =>
      simp only [hw] at hq
      simp only [if_true]
      split at hq
      · rename_i v h1 hv
        split at hq
        · rename_i ts1 hp
          refine .inl (aoper_wp hcall hR hT o hv fun m' v' w' r1 r2 r3 => ?_)
          exact aops_wp hcall ops l hq r2 ((hT.mono r3.ext).put hp r1) (fun m2 w2 a2 q1 q2 q3 => hQ m2 w2 a2 q1 q2 (r3.trans hR q3))
        · cases hq
      · cases hq
    | false =>
      simp only [hw] at hq
      simp only [Bool.false_eq_true,if_false]
      split at hq
      · rename_i ts1 hp
        exact aops_wp hcall ops l hq hR (hT.put hp (.undef m)) hQ
      · cases hq
end
end Go.Abs
namespace Go.Abs
structure AExt (h h' : AHeap) : Prop where
  low : h'.low ≤ h.low
  next : h.next ≤ h'.next
  old : ∀ a,a < h.next → a < h'.low → h'.get a = h.get a
  dead : ∀ a,a < h.next → h.get a = none → h'.get a = none
  ro : ∀ a B,a < h.next → h.get a = some B → B.wr = false → h'.get a = some B
  itd : ∀ a,a < h.next → h.getIt a = none → h'.getIt a = none
theorem AExt.refl (h : AHeap) : AExt h h := ⟨Nat.le_refl _,Nat.le_refl _,fun _ _ _ => rfl,fun _ _ h => h,fun _ _ _ h _ => h,fun _ _ h => h⟩
theorem AExt.trans {h h1 h2 : AHeap} (s : AExt h h1) (t : AExt h1 h2) : AExt h h2 :=
  ⟨Nat.le_trans t.low s.low,Nat.le_trans s.next t.next,fun a ha hl => (t.old a (Nat.lt_of_lt_of_le ha s.next) hl).trans (s.old a ha (Nat.lt_of_lt_of_le hl t.low)),
    fun a ha hd => t.dead a (Nat.lt_of_lt_of_le ha s.next) (s.dead a ha hd),fun a B ha hg hw => t.ro a B (Nat.lt_of_lt_of_le ha s.next) (s.ro a B ha hg hw) hw,fun a ha hd => t.itd a (Nat.lt_of_lt_of_le ha s.next) (s.itd a ha hd)⟩
theorem AExt.alloc (h : AHeap) (B : Blk) : AExt h (h.alloc B) :=
  ⟨Nat.le_refl _,Nat.le_succ _,fun a ha _ => by rw [AHeap.get_alloc,if_neg (by omega)],fun a ha hd => by rw [AHeap.get_alloc,if_neg (by omega)]; exact hd,fun a B ha hg _ => by rw [AHeap.get_alloc,if_neg (by omega)]; exact hg,fun _ _ h => h⟩
theorem AExt.put {h : AHeap} {a : Nat} {b : Option Blk} {B : Blk} (hg : h.get a = some B) (hw : B.wr = true) : AExt h (h.put a b) :=
  ⟨Nat.min_le_left _ _,Nat.le_refl _,fun k _ hk => by
    rw [AHeap.get_put,if_neg]
    intro e; subst e
    exact absurd hk (Nat.not_lt.2 (Nat.min_le_right _ _)),fun k _ hd => by
    rw [AHeap.get_put]
    split
    · rename_i e; subst e; rw [hg] at hd; cases hd
    · exact hd,(fun k D _ hd hdw => by
    rw [AHeap.get_put,if_neg]
    · exact hd
    · intro e; subst e; rw [hg] at hd; cases hd; rw [hw] at hdw; cases hdw),fun _ _ h => h⟩
theorem AExt.newIt (h : AHeap) (s : Oth) : AExt h (h.newIt s) :=
  ⟨Nat.le_refl _,Nat.le_succ _,fun _ _ _ => rfl,fun _ _ h => h,fun _ _ _ h _ => h,fun a ha hd => by rw [AHeap.getIt_newIt,if_neg (by omega)]; exact hd⟩
theorem AExt.setIt {h : AHeap} {a : Nat} {x y : Oth} (hg : h.getIt a = some y) : AExt h (h.setIt a x) :=
  ⟨Nat.min_le_left _ _,Nat.le_refl _,fun _ _ _ => rfl,fun _ _ h => h,fun _ _ _ h _ => h,fun b hb hd => by
    rw [AHeap.getIt_setIt]
    split
    · rename_i e; subst e; rw [hg] at hd; cases hd
    · exact hd⟩
theorem aput_ext {h h' : AHeap} {a : Addr} {vs : List Value} (hp : aput h a vs = some h') : AExt h h' := by
  unfold aput at hp
  split at hp
  · rename_i B hg
    split at hp
    · rename_i hw
      split at hp
      · split at hp
        · cases hp; exact AExt.put hg hw
        · cases hp
      · cases hp
    · cases hp
  · cases hp
theorem agrow_ext {ce : TypeId → Nat} {size bytes : Nat} {z : Value} {e : TypeId} {s : Value} {n : Nat} {new : List Value} {h h' : AHeap} {v : Value} (hg : agrow ce size bytes z e s n new h = some (v,h')) : AExt h h' := by
  unfold agrow at hg
  split at hg
  · split at hg
    · cases hg; exact AExt.alloc _ _
    · cases hg
  · split at hg
    · split at hg
      · split at hg
        · split at hg
          · rename_i h1 hp; cases hg; exact aput_ext hp
          · cases hg
        · split at hg
          · cases hg; exact AExt.alloc _ _
          · cases hg
      · split at hg
        · rename_i B _ hB
          split at hg
          · rename_i hb
            simp only [Bool.and_eq_true] at hb
            cases hg
            exact (AExt.put hB hb.2).trans (AExt.alloc _ _)
          · split at hg
            · split at hg
              · rename_i h1 hp; cases hg; exact aput_ext hp
              · cases hg
            · cases hg
        · rename_i B _ hB
          split at hg
          · rename_i hb
            simp only [Bool.and_eq_true] at hb
            cases hg
            exact (AExt.put hB hb.1.1.2).trans (AExt.alloc _ _)
          · cases hg
        · cases hg
    · cases hg
  · cases hg
theorem aappend_ext {P : Program} {types : Array TypeId} {s x v : Value} {h h' : AHeap} (ha : aappend P types s x h = some (v,h')) : AExt h h' := by
  unfold aappend at ha
  repeat' (split at ha)
  all_goals first
    | (cases ha; done)
    | (cases ha; exact AExt.refl _)
    | exact agrow_ext ha
theorem acopy_ext {P : Program} {types : Array TypeId} {s x v : Value} {h h' : AHeap} (ha : acopy P types s x h = some (v,h')) : AExt h h' := by
  unfold acopy at ha
  repeat' (split at ha)
  all_goals first
    | (cases ha; done)
    | (cases ha; exact AExt.refl _)
    | (cases ha; exact aput_ext (by assumption))
theorem aclear_ext {P : Program} {t : TypeId} {x v : Value} {h h' : AHeap} (ha : aclear P t x h = some (v,h')) : AExt h h' := by
  unfold aclear at ha
  repeat' (split at ha)
  all_goals first
    | (cases ha; done)
    | (cases ha; exact AExt.refl _)
    | (cases ha; exact AExt.setIt (by assumption))
    | (cases ha; exact aput_ext (by assumption))
theorem astore_ext {P : Program} {t : TypeId} {p v : Value} {h h' : AHeap} (ha : astore P t p v h = some h') : AExt h h' := by
  unfold astore at ha
  repeat' (split at ha)
  all_goals first
    | (cases ha; done)
    | exact aput_ext ha
theorem amapTo_ext {x v : Value} {g : List MapEntry → Nat → Option (Value × List MapEntry × Nat)} {h h' : AHeap} (hq : amapTo h x g = some (v,h')) : AExt h h' := by
  unfold amapTo at hq
  repeat' (split at hq)
  all_goals first
    | (cases hq; done)
    | (cases hq; exact AExt.setIt (by assumption))
theorem aloud_ext {P : Program} {op : Op} {ts : Tr Value} {v : Value} {h h' : AHeap} (ha : aloud P op ts h = some (v,h')) : AExt h h' := by
  unfold aloud at ha
  split at ha
  case h_1 =>
    split at ha
    · cases ha; exact AExt.newIt _ _
    · cases ha
  all_goals first
    | (unfold arange at ha; split at ha
       · cases ha; exact AExt.newIt _ _
       · cases ha)
    | (unfold anext at ha; split at ha
       · split at ha
         · rename_i hy
           split at ha
           · cases ha; exact AExt.setIt hy
           · cases ha; exact AExt.refl _
         · cases ha
       · cases ha)
    | (repeat' (split at ha)
       all_goals first
         | (cases ha; done)
         | exact amapTo_ext ha
         | exact aappend_ext ha
         | exact acopy_ext ha
         | exact aclear_ext ha
         | (cases ha; exact AExt.refl _)
         | (cases ha; exact astore_ext (by assumption)))
def CallExt (call : CallF) : Prop := ∀ f args h v h',call f args h = some (v,h') → AExt h h'
section
variable {P : Program} {call : CallF}
theorem acallOp_ext (hc : CallExt call) {op : Op} {ts : Tr Value} {v : Value} {h h' : AHeap} (ha : acallOp P call op ts h = some (v,h')) : AExt h h' := by
  unfold acallOp at ha
  split at ha
  · split at ha
    · exact hc _ _ _ _ _ ha
    · cases ha
  · cases ha
theorem aside_ext {op : Op} {ts : Tr Value} {v : Value} {h h' : AHeap} (ha : aside P op ts h = some (v,h')) : AExt h h' := by
  unfold aside at ha
  repeat' split at ha
  all_goals first
    | (cases ha; done)
    | (cases ha; exact AExt.refl _)
    | (cases ha; exact AExt.alloc _ _)
theorem aoper_ext (hc : CallExt call) {o : Oper} {ts : Tr Value} {v : Value} {h h' : AHeap} (ha : aoper P call o ts h = some (v,h')) : AExt h h' := by
  unfold aoper at ha
  split at ha
  · split at ha
    · cases ha; exact AExt.refl _
    · split at ha
      · cases ha; exact AExt.refl _
      · exact aside_ext ha
  · split at ha
    · cases ha; exact AExt.alloc _ _
    · cases ha
  · exact aloud_ext ha
  · exact acallOp_ext hc ha
theorem aops_ext (hc : CallExt call) {nt : Nat} {ops : Array Oper} : ∀ {l : List Oper} {ts ts' : Tr Value} {h h' : AHeap},aops P call nt ops l ts h = some (ts',h') → AExt h h'
  | [],ts,ts',h,h',ha => by cases ha; exact AExt.refl _
  | o :: l,ts,ts',h,h',ha => by
    unfold aops at ha
    split at ha
    · split at ha
      · rename_i v h1 hv
        split at ha
        · exact (aoper_ext hc hv).trans (aops_ext hc ha)
        · cases ha
      · cases ha
    · split at ha
      · exact aops_ext hc ha
      · cases ha
structure DExt (base : Nat) (h h' : AHeap) : Prop where
  low : h'.low ≤ h.low
  next : h.next ≤ h'.next
  old : ∀ a,a < base → a < h'.low → h'.get a = h.get a
  dead : ∀ a,a < base → h.get a = none → h'.get a = none
  ro : ∀ a B,a < base → h.get a = some B → B.wr = false → h'.get a = some B
  itd : ∀ a,a < base → h.getIt a = none → h'.getIt a = none
theorem aopsD_ext (hc : CallExt call) {nt base : Nat} {ops : Array Oper} : ∀ {l : List Oper} {k : Nat} {ts ts' : Tr Value} {h h' : AHeap} {rq : List (Nat × Nat)} {rl : List (Nat × Turned)} {rq' : List (Nat × Nat)} {rl' : List (Nat × Turned)},base ≤ h.next →
    aopsD P call nt base ops l k ts h rq rl = some (ts',h',rq',rl') → DExt base h h'
  | [],k,ts,ts',h,h',rq,rl,rq',rl',hb,ha => by cases ha; exact ⟨Nat.le_refl _,Nat.le_refl _,fun _ _ _ => rfl,fun _ _ h => h,fun _ _ _ h _ => h,fun _ _ h => h⟩
  | o :: l,k,ts,ts',h,h',rq,rl,rq',rl',hb,ha => by
    unfold aopsD at ha
    split at ha
    · split at ha
      · split at ha
        · split at ha
          · split at ha
            · split at ha
              · exact aopsD_ext hc hb ha
              · split at ha
                · exact aopsD_ext hc hb ha
                · cases ha
            · exact aopsD_ext hc hb ha
          · cases ha
        · cases ha
      · split at ha
        · split at ha
          · rename_i v B _ _ _ _
            obtain ⟨h1,h2,h3,h4,h5,h6⟩ := aopsD_ext hc (h := { h with m := h.m.set (base + k) (some B) }) hb ha
            have hg : ∀ a,a < base → ({ h with m := h.m.set (base + k) (some B) } : AHeap).get a = h.get a := fun a ha => by
              have := AHeap.get_put h (base + k) a (some B)
              rw [if_neg (by omega)] at this
              exact this
            exact ⟨h1,h2,fun a ha hl => (h3 a ha hl).trans (hg a ha),fun a ha hd => h4 a ha ((hg a ha).trans hd),fun a D ha hd hw => h5 a D ha ((hg a ha).trans hd) hw,h6⟩
          · cases ha
        · cases ha
      · split at ha
        · rename_i v h1 hv
          split at ha
          · have e1 := aoper_ext hc hv
            obtain ⟨q1,q2,q3,q4,q5,q6⟩ := aopsD_ext hc (h := { h1 with low := Nat.min h.low h1.low }) (Nat.le_trans hb e1.next) ha
            refine ⟨Nat.le_trans q1 (Nat.min_le_left _ _),Nat.le_trans e1.next q2,fun a ha hl => ?_,fun a ha hd => q4 a ha (e1.dead a (Nat.lt_of_lt_of_le ha hb) hd),fun a D ha hd hw => q5 a D ha (e1.ro a D (Nat.lt_of_lt_of_le ha hb) hd hw) hw,fun a ha hd => q6 a ha (e1.itd a (Nat.lt_of_lt_of_le ha hb) hd)⟩
            exact (q3 a ha hl).trans (e1.old a (Nat.lt_of_lt_of_le ha hb) (Nat.lt_of_lt_of_le hl (Nat.le_trans q1 (Nat.min_le_right _ _))))
          · cases ha
        · cases ha
    · split at ha
      · exact aopsD_ext hc hb ha
      · cases ha
theorem aregD_ext (hc : CallExt call) {nt : Nat} {ops : Array Oper} {ts ts' : Tr Value} {h h' : AHeap} (ha : aregD P call nt ops ts h = some (ts',h')) : AExt h h' := by
  unfold aregD at ha
  split at ha
  · split at ha
    · rename_i ts1 h1 rq rl hd
      split at ha
      · cases ha
        obtain ⟨q1,q2,q3,q4,q5,q6⟩ := aopsD_ext hc (Nat.le_add_right _ _) hd
        exact ⟨q1,Nat.le_trans (Nat.le_add_right _ _) q2,q3,q4,q5,q6⟩
      · cases ha
    · cases ha
  · cases ha
def CodeExt (code : CodeF) : Prop := ∀ c nt ts h x ts' h',code c nt ts h = some (x,ts',h') → AExt h h'
theorem acall_ext {O : CallF} (hO : CallExt O) {code : CodeF} (hc : CodeExt code) : CallExt (acall P O code) := by
  intro f args h v h' ha
  unfold acall at ha
  split at ha
  · rename_i hk; cases ha; exact hO _ _ _ _ _ hk
  split at ha
  · split at ha
    · split at ha
      · rename_i hcode
        split at ha
        · cases ha; exact hc _ _ _ _ _ _ _ hcode
        · cases ha
      · rename_i hcode
        split at ha
        · cases ha; exact hc _ _ _ _ _ _ _ hcode
        · cases ha
      · cases ha
    · cases ha
  · cases ha
theorem aloop_ext {code : CodeF} (hc : CodeExt code) {b : Code} {nt : Nat} : ∀ (n : Nat) {ts ts' : Tr Value} {h h' : AHeap} {x : AExit},aloop code b nt n ts h = some (x,ts',h') → AExt h h'
  | 0,ts,ts',h,h',x,ha => by cases ha
  | n + 1,ts,ts',h,h',x,ha => by
    unfold aloop at ha
    split at ha
    · rename_i h1eq
      exact (hc _ _ _ _ _ _ _ h1eq).trans (aloop_ext hc n ha)
    · exact hc _ _ _ _ _ _ _ ha
theorem astep_ext {O : CallF} (hO : CallExt O) {code : CodeF} (hc : CodeExt code) (n : Nat) : CodeExt (astep P O n code) := by
  intro c nt ts h x ts' h' ha
  have hcall := acall_ext (P := P) hO hc
  unfold astep at ha
  split at ha
  · cases ha; exact AExt.refl _
  · cases ha; exact AExt.refl _
  · split at ha
    · split at ha
      · rename_i hr; cases ha; exact aops_ext hcall hr
      · cases ha
    · split at ha
      · rename_i hr; cases ha; exact aregD_ext hcall hr
      · cases ha
  · split at ha
    · rename_i h1; exact (hc _ _ _ _ _ _ _ h1).trans (hc _ _ _ _ _ _ _ ha)
    · exact hc _ _ _ _ _ _ _ ha
  · split at ha
    · exact hc _ _ _ _ _ _ _ ha
    · exact hc _ _ _ _ _ _ _ ha
    · cases ha
  · split at ha
    · rename_i h1
      split at ha
      · cases ha; exact hc _ _ _ _ _ _ _ h1
      · cases ha; exact hc _ _ _ _ _ _ _ h1
    · exact hc _ _ _ _ _ _ _ ha
  · exact aloop_ext hc n ha
  · cases ha; exact AExt.refl _
  · cases ha; exact AExt.refl _
  · cases ha
theorem acode_ext {O : CallF} (hO : CallExt O) : ∀ n,CodeExt (acode P O n)
  | 0 => fun _ _ _ _ _ _ _ ha => by cases ha
  | n + 1 => astep_ext hO (acode_ext hO n) n
end
end Go.Abs
namespace Go.Abs
theorem wpAny_inv {P : Program} {ops : Array Oper} {Q : Exit → Act → World → Prop} (I : Array Bool → Act → World → Prop)
    (hstep : ∀ listed a w,I listed a w → ∀ i ∈ Region.ready .any ops listed,wpOp P ops Q i (I (listed.setIfInBounds i true)) a w)
    (hend : ∀ listed a w,I listed a w → Region.ready .any ops listed = [] → Q .normal a w) :
    ∀ (fuel : Nat) (listed : Array Bool) (a : Act) (w : World),listed.size = ops.size → listed.toList.count false ≤ fuel → I listed a w → wpAny P .any ops Q fuel listed a w
  | 0,listed,a,w,hs,hc,hI => by
    have hr : Region.ready .any ops listed = [] := by
      rw [List.eq_nil_iff_forall_not_mem]
      intro i hi
      obtain ⟨h0,o,ho,_⟩ := mem_ready.1 hi
      have hlt : i < listed.size := by rw [hs]; exact (Array.getElem?_eq_some_iff.1 ho).1
      have hf : listed[i] = false := by simpa [Array.getD,hlt] using h0
      have : false ∈ listed.toList := by rw [← hf]; simp
      have := List.count_pos_iff.2 this
      omega
    exact ⟨hr,hend _ _ _ hI hr⟩
  | fuel + 1,listed,a,w,hs,hc,hI => by
    refine ⟨fun hr => hend _ _ _ hI hr,fun i hi => ?_⟩
    refine wpOp_mono (fun a' w' hI' => wpAny_inv I hstep hend fuel _ a' w' (by simpa using hs) ?_ hI') (hstep _ _ _ hI i hi)
    obtain ⟨h0,o,ho,_⟩ := mem_ready.1 hi
    have hlt : i < listed.size := by rw [hs]; exact (Array.getElem?_eq_some_iff.1 ho).1
    have hf : listed[i] = false := by simpa [Array.getD,hlt] using h0
    have hlt' : i < listed.toList.length := by simpa using hlt
    have hge : listed.toList[i] = false := by simpa using hf
    have hcs : (listed.toList.set i true).count false = listed.toList.count false - 1 := by
      rw [List.count_set hlt',hge]
      simp
    rw [Array.toList_setIfInBounds,hcs]
    omega
inductive Reach (ops : Array Oper) : Nat → Nat → Prop where
  | edge (i j : Nat) (o : Oper) (e : Edge) (ho : ops[j]? = some o) (he : e ∈ o.after) (hb : Region.binds .any e = true) (hi : e.on = i) : Reach ops i j
  | trans (i k j : Nat) (o : Oper) (e : Edge) (ho : ops[j]? = some o) (he : e ∈ o.after) (hb : Region.binds .any e = true) (hk : e.on = k) (hr : Reach ops i k) : Reach ops i j
theorem before_inner (ops : Array Oper) (acc : Array Nat) (hacc : ∀ j i,(acc.getD j 0).testBit i = true → Reach ops i j) (j : Nat) (o : Oper) (ho : ops[j]? = some o) :
    ∀ (es : List Edge) (_ : ∀ e ∈ es,e ∈ o.after) (s : Nat) (_ : ∀ i,s.testBit i = true → Reach ops i j) (i : Nat),
      (es.foldl (fun s e => if Region.binds .any e then s ||| 2 ^ e.on ||| acc.getD e.on 0 else s) s).testBit i = true → Reach ops i j
  | [],_,s,hs,i,hi => hs i hi
  | e :: es,he,s,hs,i,hi => by
    rw [List.foldl_cons] at hi
    refine before_inner ops acc hacc j o ho es (fun e' h' => he e' (List.mem_cons_of_mem _ h')) _ (fun i' hi' => ?_) i hi
    split at hi'
    · rename_i hb
      rw [Nat.testBit_or,Nat.testBit_or,Nat.testBit_two_pow] at hi'
      simp only [Bool.or_eq_true,decide_eq_true_eq] at hi'
      rcases hi' with (h1 | h1) | h1
      · exact hs i' h1
      · exact .edge i' j o e ho (he e (List.mem_cons_self ..)) hb h1
      · exact .trans i' e.on j o e ho (he e (List.mem_cons_self ..)) hb rfl (hacc _ _ h1)
    · exact hs i' hi'
theorem before_outer (ops : Array Oper) : ∀ (l : List Oper) (acc : Array Nat) (_ : ∀ k,l[k]? = ops[acc.size + k]?) (_ : ∀ j i,(acc.getD j 0).testBit i = true → Reach ops i j),
    ∀ j i,((l.foldl (fun acc o => acc.push (o.after.foldl (fun s e => if Region.binds .any e then s ||| 2 ^ e.on ||| acc.getD e.on 0 else s) 0)) acc).getD j 0).testBit i = true → Reach ops i j
  | [],acc,_,hacc,j,i,h => hacc j i h
  | o :: l,acc,hl,hacc,j,i,h => by
    rw [List.foldl_cons] at h
    refine before_outer ops l _ (fun k => ?_) (fun j' i' h' => ?_) j i h
    · have := hl (k + 1)
      rw [Array.size_push]
      simpa [Nat.add_assoc,Nat.add_comm 1 k] using this
    · rw [Array.getD_eq_getD_getElem?,Array.getElem?_push] at h'
      split at h'
      · rename_i he
        subst he
        simp only [Option.getD_some] at h'
        rw [← Array.foldl_toList] at h'
        refine before_inner ops acc hacc acc.size o (by simpa using (hl 0).symm) o.after.toList (fun e he => by simpa using he) 0 (fun i hi => by simp at hi) i' h'
      · rw [← Array.getD_eq_getD_getElem?] at h'
        exact hacc j' i' h'
theorem befOf_reach {ops : Array Oper} {i j : Nat} (h : befOf ops i j = true) : Reach ops i j := by
  unfold befOf Region.before at h
  rw [← Array.foldl_toList] at h
  exact before_outer ops ops.toList #[] (fun k => by simp) (fun j i h => by simp at h) j i h
def Closed (ops : Array Oper) (S : Nat → Prop) : Prop := ∀ j o,S j → ops[j]? = some o → ∀ e ∈ o.after,Region.binds .any e = true → S e.on
theorem Reach.closed {ops : Array Oper} {S : Nat → Prop} (hc : Closed ops S) {i j : Nat} (hr : Reach ops i j) : (∀ o,ops[j]? = some o → ∀ e ∈ o.after,Region.binds .any e = true → S e.on) → S i := by
  induction hr with
  | edge j o e ho he hb hi => intro h; subst hi; exact h o ho e he hb
  | trans k j o e ho he hb hk hr ih =>
    intro h
    subst hk
    exact ih (fun o' ho' e' he' hb' => hc e.on o' (h o ho e he hb) ho' e' he' hb')
theorem Reach.lt {ops : Array Oper} (hlt : ∀ j o,ops[j]? = some o → ∀ e ∈ o.after,Region.binds .any e = true → e.on < j) {i j : Nat} (hr : Reach ops i j) : i < j := by
  induction hr with
  | edge j o e ho he hb hi => subst hi; exact hlt j o ho e he hb
  | trans k j o e ho he hb hk hr ih => subst hk; exact Nat.lt_trans ih (hlt j o ho e he hb)
section
variable {P : Program}
theorem ev_tget (ts : Tr Value) (t : Tmp) : ev P ts (.tmp t) = some (tget ts t) := by
  simp only [ev,tget]
  cases h : ts.get t <;> rfl
theorem ev_congr {ts ts' : Tr Value} {x : Operand} (h : ∀ t,x = .tmp t → tget ts t = tget ts' t) : ev P ts x = ev P ts' x := by
  cases x with
  | tmp t => rw [ev_tget,ev_tget,h t rfl]
  | _ => rfl
theorem evs_congr {ts ts' : Tr Value} : ∀ {l : List Operand},(∀ x ∈ l,ev P ts x = ev P ts' x) → evs P ts l = evs P ts' l
  | [],_ => rfl
  | x :: l,h => by
    simp only [evs]
    rw [h x (List.mem_cons_self ..),evs_congr (fun y hy => h y (List.mem_cons_of_mem _ hy))]
theorem evParts_congr {ts ts' : Tr Value} : ∀ {l : List (Nat × Operand)},(∀ x ∈ l,ev P ts x.2 = ev P ts' x.2) → evParts P ts l = evParts P ts' l
  | [],_ => rfl
  | (i,x) :: l,h => by
    simp only [evParts]
    rw [h (i,x) (List.mem_cons_self ..),evParts_congr (fun y hy => h y (List.mem_cons_of_mem _ hy))]
theorem optEv_congr {ts ts' : Tr Value} {x : Option Operand} (h : ∀ y,x = some y → ev P ts y = ev P ts' y) : optEv P ts x = optEv P ts' x := by
  cases x with
  | none => rfl
  | some x => simp only [optEv]; rw [h x rfl]
theorem aq_congr {op : Op} {ts ts' : Tr Value} (h : AHeap) (he : ∀ x ∈ op.operands,ev P ts x = ev P ts' x) : aq P op ts h = aq P op ts' h := by
  cases op with
  | move x => exact he x (by simp [Op.operands])
  | assign x => exact he x (by simp [Op.operands])
  | pick c x y => simp only [aq,aqPick,aqLoad,aqBuild,aqNil,aqBin,aqUn,aqConv,aqIface,aqFunc,aqSlice,aqFieldAddr,aqField,aqIndexAddr,aqIndex,aqExtract]; rw [he c (by simp [Op.operands]),he x (by simp [Op.operands]),he y (by simp [Op.operands])]
  | load t x => simp only [aq,aqPick,aqLoad,aqBuild,aqNil,aqBin,aqUn,aqConv,aqIface,aqFunc,aqSlice,aqFieldAddr,aqField,aqIndexAddr,aqIndex,aqExtract]; rw [he x (by simp [Op.operands])]
  | build t parts => simp only [aq,aqPick,aqLoad,aqBuild,aqNil,aqBin,aqUn,aqConv,aqIface,aqFunc,aqSlice,aqFieldAddr,aqField,aqIndexAddr,aqIndex,aqExtract]; rw [evParts_congr (fun x hx => he x.2 (by simp [Op.operands]; exact ⟨x.1,by simpa using hx⟩))]
  | nilCheck x => simp only [aq,aqPick,aqLoad,aqBuild,aqNil,aqBin,aqUn,aqConv,aqIface,aqFunc,aqSlice,aqFieldAddr,aqField,aqIndexAddr,aqIndex,aqExtract]; rw [he x (by simp [Op.operands])]
  | binOp op t x y yt => simp only [aq,aqPick,aqLoad,aqBuild,aqNil,aqBin,aqUn,aqConv,aqIface,aqFunc,aqSlice,aqFieldAddr,aqField,aqIndexAddr,aqIndex,aqExtract]; rw [he x (by simp [Op.operands]),he y (by simp [Op.operands])]
  | unOp op t x => simp only [aq,aqPick,aqLoad,aqBuild,aqNil,aqBin,aqUn,aqConv,aqIface,aqFunc,aqSlice,aqFieldAddr,aqField,aqIndexAddr,aqIndex,aqExtract]; rw [he x (by simp [Op.operands])]
  | convert s d x => simp only [aq,aqPick,aqLoad,aqBuild,aqNil,aqBin,aqUn,aqConv,aqIface,aqFunc,aqSlice,aqFieldAddr,aqField,aqIndexAddr,aqIndex,aqExtract]; rw [he x (by simp [Op.operands])]
  | makeInterface t x => simp only [aq,aqPick,aqLoad,aqBuild,aqNil,aqBin,aqUn,aqConv,aqIface,aqFunc,aqSlice,aqFieldAddr,aqField,aqIndexAddr,aqIndex,aqExtract]; rw [he x (by simp [Op.operands])]
  | makeFunc fn as bs => simp only [aq,aqPick,aqLoad,aqBuild,aqNil,aqBin,aqUn,aqConv,aqIface,aqFunc,aqSlice,aqFieldAddr,aqField,aqIndexAddr,aqIndex,aqExtract]; rw [evs_congr (l := as.toList) (fun x hx => he x (by simp [Op.operands]; exact .inl (by simpa using hx))),evs_congr (l := bs.toList) (fun x hx => he x (by simp [Op.operands]; exact .inr (by simpa using hx)))]
  | slice t x lo hi mx =>
    simp only [aq,aqPick,aqLoad,aqBuild,aqNil,aqBin,aqUn,aqConv,aqIface,aqFunc,aqSlice,aqFieldAddr,aqField,aqIndexAddr,aqIndex,aqExtract]
    rw [he x (by simp [Op.operands]),optEv_congr (x := lo) (fun y hy => he y (by simp [Op.operands,hy])),optEv_congr (x := hi) (fun y hy => he y (by simp [Op.operands,hy])),optEv_congr (x := mx) (fun y hy => he y (by simp [Op.operands,hy]))]
  | fieldAddr s x f => simp only [aq,aqPick,aqLoad,aqBuild,aqNil,aqBin,aqUn,aqConv,aqIface,aqFunc,aqSlice,aqFieldAddr,aqField,aqIndexAddr,aqIndex,aqExtract]; rw [he x (by simp [Op.operands])]
  | field t x f => simp only [aq,aqPick,aqLoad,aqBuild,aqNil,aqBin,aqUn,aqConv,aqIface,aqFunc,aqSlice,aqFieldAddr,aqField,aqIndexAddr,aqIndex,aqExtract]; rw [he x (by simp [Op.operands])]
  | indexAddr t x ix => simp only [aq,aqPick,aqLoad,aqBuild,aqNil,aqBin,aqUn,aqConv,aqIface,aqFunc,aqSlice,aqFieldAddr,aqField,aqIndexAddr,aqIndex,aqExtract]; rw [he x (by simp [Op.operands]),he ix (by simp [Op.operands])]
  | index t x ix => simp only [aq,aqPick,aqLoad,aqBuild,aqNil,aqBin,aqUn,aqConv,aqIface,aqFunc,aqSlice,aqFieldAddr,aqField,aqIndexAddr,aqIndex,aqExtract]; rw [he x (by simp [Op.operands]),he ix (by simp [Op.operands])]
  | extract t ix => simp only [aq,aqPick,aqLoad,aqBuild,aqNil,aqBin,aqUn,aqConv,aqIface,aqFunc,aqSlice,aqFieldAddr,aqField,aqIndexAddr,aqIndex,aqExtract]; rw [he t (by simp [Op.operands])]
  | call c =>
    obtain ⟨callee,args,types⟩ := c
    cases callee with
    | value f => rfl
    | invoke r s => rfl
    | builtin b =>
      have ha : ∀ x ∈ args.toList,ev P ts x = ev P ts' x := fun x hx => he x (by simp [Op.operands,Call.operands]; simpa using hx)
      cases b <;> first | rfl | skip
      case len =>
        rcases hargs : args.toList with _ | ⟨x,_ | ⟨y,r⟩⟩ <;> simp only [aq,aqBuiltin,aqLen,aqCap,hargs]
        rw [ha x (by rw [hargs]; simp)]
      case cap =>
        rcases hargs : args.toList with _ | ⟨x,_ | ⟨y,r⟩⟩ <;> simp only [aq,aqBuiltin,aqLen,aqCap,hargs]
        rw [ha x (by rw [hargs]; simp)]
      case max => simp only [aq,aqBuiltin,aqMax]; rw [evs_congr ha]
      case min => simp only [aq,aqBuiltin,aqMin]; rw [evs_congr ha]
  | _ => rfl
theorem anew_congr {op : Op} {ts ts' : Tr Value} (id : Nat) (he : ∀ x ∈ op.operands,ev P ts x = ev P ts' x) : anew P op ts id = anew P op ts' id := by
  cases op with
  | box e x => simp only [anew]; rw [he x (by simp [Op.operands])]
  | buildSlice t n parts => simp only [anew]; rw [evParts_congr (fun x hx => he x.2 (by simp [Op.operands]; exact ⟨x.1,by simpa using hx⟩))]
  | makeSlice t l c => simp only [anew]; rw [he l (by simp [Op.operands]),he c (by simp [Op.operands])]
  | _ => rfl
theorem aloud_congr {op : Op} {ts ts' : Tr Value} (h : AHeap) (he : ∀ x ∈ op.operands,ev P ts x = ev P ts' x) : aloud P op ts h = aloud P op ts' h := by
  cases op with
  | store t x y => simp only [aloud]; rw [he x (by simp [Op.operands]),he y (by simp [Op.operands])]
  | call c =>
    obtain ⟨callee,args,types⟩ := c
    cases callee with
    | value f => rfl
    | invoke r s => rfl
    | builtin b =>
      have ha : ∀ x ∈ args.toList,ev P ts x = ev P ts' x := fun x hx => he x (by simp [Op.operands,Call.operands]; simpa using hx)
      cases b <;> first | rfl | skip
      case append => simp only [aloud]; rw [evs_congr ha]
      case copy => simp only [aloud]; rw [evs_congr ha]
      case clear => simp only [aloud]; rw [evs_congr ha]
      case delete => simp only [aloud]; rw [evs_congr ha]
  | range t x => simp only [aloud]; rw [he x (by simp [Op.operands])]
  | next x b => simp only [aloud]; rw [he x (by simp [Op.operands])]
  | makeMap t r =>
    cases r with
    | none => rfl
    | some x => simp only [aloud,amake0]; rw [he x (by simp [Op.operands])]
  | mapUpdate t m k x => simp only [aloud]; rw [he m (by simp [Op.operands]),he k (by simp [Op.operands]),he x (by simp [Op.operands])]
  | insert t m k x => simp only [aloud]; rw [he m (by simp [Op.operands]),he k (by simp [Op.operands]),he x (by simp [Op.operands])]
  | lookup t m k ok => simp only [aloud]; rw [he m (by simp [Op.operands]),he k (by simp [Op.operands])]
  | mapEntry t m k => simp only [aloud]; rw [he m (by simp [Op.operands]),he k (by simp [Op.operands])]
  | entryStore t m s x => simp only [aloud]; rw [he m (by simp [Op.operands]),he s (by simp [Op.operands]),he x (by simp [Op.operands])]
  | _ => rfl
theorem amq_congr {op : Op} {ts ts' : Tr Value} (h : AHeap) (he : ∀ x ∈ op.operands,ev P ts x = ev P ts' x) : amq P op ts h = amq P op ts' h := by
  cases op with
  | call c =>
    obtain ⟨callee,args,types⟩ := c
    cases callee with
    | value f => rfl
    | invoke r s => rfl
    | builtin b =>
      have ha : ∀ x ∈ args.toList,ev P ts x = ev P ts' x := fun x hx => he x (by simp [Op.operands,Call.operands]; simpa using hx)
      cases b <;> first | rfl | skip
      case len => simp only [amq]; rw [evs_congr ha]
  | _ => rfl
theorem acallOp_congr {call : CallF} {op : Op} {ts ts' : Tr Value} (h : AHeap) (he : ∀ x ∈ op.operands,ev P ts x = ev P ts' x) : acallOp P call op ts h = acallOp P call op ts' h := by
  cases op with
  | call c =>
    obtain ⟨callee,args,types⟩ := c
    cases callee with
    | value f =>
      simp only [acallOp]
      rw [he f (by simp [Op.operands,Call.operands]),evs_congr (fun x hx => he x (by simp [Op.operands,Call.operands]; exact .inr (by simpa using hx)))]
    | _ => rfl
  | _ => rfl
theorem aside_congr {op : Op} {ts ts' : Tr Value} (h : AHeap) (he : ∀ x ∈ op.operands,ev P ts x = ev P ts' x) : aside P op ts h = aside P op ts' h := by
  cases op with
  | convert s d x => simp only [aside]; rw [he x (by simp [Op.operands])]
  | slice t x lo hi mx =>
    cases hi with
    | none => rfl
    | some hi =>
      cases mx with
      | some _ => rfl
      | none =>
        simp only [aside]
        rw [he x (by simp [Op.operands]),he hi (by simp [Op.operands]),optEv_congr (fun y hy => he y (by subst hy; simp [Op.operands]))]
  | _ => rfl
theorem aoper_congr {call : CallF} {o : Oper} {ts ts' : Tr Value} (h : AHeap) (he : ∀ x ∈ o.op.operands,ev P ts x = ev P ts' x) : aoper P call o ts h = aoper P call o ts' h := by
  unfold aoper
  rw [aq_congr h he,amq_congr h he,aside_congr h he,anew_congr h.next he,aloud_congr h he,acallOp_congr h he]
theorem wantedA_congr {ops : Array Oper} {o : Oper} {ts ts' : Tr Value} (h : ∀ t,(∀ j w,o.guard = some (j,w) → (ops[j]?).bind (·.dst) = some t → tget ts t = tget ts' t)) : wantedA ops o ts = wantedA ops o ts' := by
  unfold wantedA
  cases hg : o.guard with
  | none => rfl
  | some q =>
    obtain ⟨j,w⟩ := q
    simp only []
    cases hd : (ops[j]?).bind (·.dst) with
    | none => rfl
    | some t =>
      have he := h t j w hg hd
      simp only []
      unfold tget at he
      cases h1 : ts.get t <;> cases h2 : ts'.get t <;> simp only [h1,h2] at he ⊢
      · rw [← he]; rfl
      · rw [he]; rfl
      · rw [he]
theorem aq_heap {o : Oper} {ts : Tr Value} {h h' : AHeap} (hb : ∀ b,loadBlock P o ts = some b → h.get b = h'.get b) : aq P o.op ts h = aq P o.op ts h' := by
  obtain ⟨dst,op,type,pos,after,guard⟩ := o
  cases op with
  | load t x =>
    simp only [aq,aqLoad]
    split
    · rename_i v hv
      unfold aload
      split
      · rename_i a
        have := hb a.block (by simp [loadBlock,hv])
        rw [this]
      · rfl
    · rfl
  | convert s d x =>
    simp only [aq,aqConv]
    split
    · rename_i v hv
      split
      · rfl
      · split
        · split
          · unfold abytes
            split
            · rename_i a n c _
              split
              · rfl
              · rename_i hn
                have := hb a.block (by simp [loadBlock,hv,hn])
                unfold cellsAt
                rw [this]
            · rfl
          · rfl
        · rfl
    · rfl
  | call c =>
    obtain ⟨callee,args,types⟩ := c
    cases callee with
    | builtin b => cases b <;> rfl
    | _ => rfl
  | _ => rfl
variable {call : CallF} {nt base : Nat} {ops : Array Oper}
def StepD (P : Program) (call : CallF) (nt base : Nat) (ops : Array Oper) (RQ : List (Nat × Nat)) (RL : List (Nat × Turned)) (i : Nat) (o : Oper) (ts : Tr Value) (h : AHeap) (v : Value) (ts' : Tr Value) (h' : AHeap) : Prop :=
  putA nt ts o.dst v = some ts' ∧
  ((wantedA ops o ts = false ∧ v = undef ∧ h' = h) ∨
   (wantedA ops o ts = true ∧ kindOf o.op = 0 ∧ aq P o.op ts h = some v ∧ h' = h ∧ ∀ b,loadBlock P o ts = some b → (b < base ∧ (i,b) ∈ RQ) ∨ freeRd ops i o = true) ∨
   (wantedA ops o ts = true ∧ kindOf o.op = 1 ∧ (∃ B,anew P o.op ts (base + i) = some (v,B) ∧ h' = { h with m := h.m.set (base + i) (some B) }) ∧ (i,base + i) ∈ RQ) ∨
   (wantedA ops o ts = true ∧ 2 ≤ kindOf o.op ∧ ∃ h1,aoper P call o ts { h with low := h.next } = some (v,h1) ∧ h' = { h1 with low := Nat.min h.low h1.low } ∧ (i,h1.low,storeB P o ts) ∈ RL))
structure Rec (P : Program) (call : CallF) (nt base : Nat) (ops : Array Oper) (RQ : List (Nat × Nat)) (RL : List (Nat × Turned)) (k n : Nat) (ts : Tr Value) (h : AHeap) (ts' : Tr Value) (h' : AHeap) (T : Nat → Tr Value) (H : Nat → AHeap) (V : Nat → Value) : Prop where
  t0 : T k = ts
  h0 : H k = h
  t1 : T n = ts'
  h1 : H n = h'
  le : k ≤ n
  size : n = ops.size
  step : ∀ i o,k ≤ i → ops[i]? = some o → StepD P call nt base ops RQ RL i o (T i) (H i) (V i) (T (i + 1)) (H (i + 1))
theorem aopsD_mono : ∀ {l : List Oper} {k : Nat} {ts ts' : Tr Value} {h h' : AHeap} {rq : List (Nat × Nat)} {rl : List (Nat × Turned)} {rq' : List (Nat × Nat)} {rl' : List (Nat × Turned)},aopsD P call nt base ops l k ts h rq rl = some (ts',h',rq',rl') → (∀ x ∈ rq,x ∈ rq') ∧ ∀ x ∈ rl,x ∈ rl'
  | [],k,ts,ts',h,h',rq,rl,rq',rl',ha => by cases ha; exact ⟨fun _ h => h,fun _ h => h⟩
  | o :: l,k,ts,ts',h,h',rq,rl,rq',rl',ha => by
    unfold aopsD at ha
    repeat' (split at ha)
    all_goals first
      | (cases ha; done)
      | exact aopsD_mono ha
      | (obtain ⟨h1,h2⟩ := aopsD_mono ha; exact ⟨fun x hx => h1 x (List.mem_cons_of_mem _ hx),h2⟩)
      | (obtain ⟨h1,h2⟩ := aopsD_mono ha; exact ⟨h1,fun x hx => h2 x (List.mem_cons_of_mem _ hx)⟩)
theorem aopsD_rec : ∀ {l : List Oper} {k : Nat} {ts ts' : Tr Value} {h h' : AHeap} {rq : List (Nat × Nat)} {rl : List (Nat × Turned)} {rq' : List (Nat × Nat)} {rl' : List (Nat × Turned)},(∀ j,l[j]? = ops[k + j]?) → k + l.length = ops.size →
    aopsD P call nt base ops l k ts h rq rl = some (ts',h',rq',rl') → ∃ T H V,Rec P call nt base ops rq' rl' k ops.size ts h ts' h' T H V
  | [],k,ts,ts',h,h',rq,rl,rq',rl',hl,hk,ha => by
    cases ha
    refine ⟨fun _ => ts,fun _ => h,fun _ => undef,rfl,rfl,rfl,rfl,by simp at hk; omega,rfl,fun i o hi ho => ?_⟩
    have := (Array.getElem?_eq_some_iff.1 ho).1
    simp at hk; omega
  | o :: l,k,ts,ts',h,h',rq,rl,rq',rl',hl,hk,ha => by
    have ho : ops[k]? = some o := by simpa using (hl 0).symm
    have hl' : ∀ j,l[j]? = ops[k + 1 + j]? := fun j => by
      have := hl (j + 1); simpa [Nat.add_assoc,Nat.add_comm 1 j] using this
    have hk' : k + 1 + l.length = ops.size := by simp at hk; omega
    have glue : ∀ (v : Value) (ts1 : Tr Value) (h1 : AHeap) (rq1 : List (Nat × Nat)) (rl1 : List (Nat × Turned)),aopsD P call nt base ops l (k + 1) ts1 h1 rq1 rl1 = some (ts',h',rq',rl') →
        StepD P call nt base ops rq' rl' k o ts h v ts1 h1 → ∃ T H V,Rec P call nt base ops rq' rl' k ops.size ts h ts' h' T H V := by
      intro v ts1 h1 rq1 rl1 hrest hstep
      obtain ⟨T,H,V,r⟩ := aopsD_rec hl' hk' hrest
      have hle := r.le
      refine ⟨fun i => if i = k then ts else T i,fun i => if i = k then h else H i,fun i => if i = k then v else V i,by simp,by simp, ?_, ?_,by omega,rfl,fun i p hi hp => ?_⟩
      · rw [if_neg (by omega)]; exact r.t1
      · rw [if_neg (by omega)]; exact r.h1
      · by_cases e : i = k
        · subst e
          rw [ho] at hp; cases hp
          simp only [if_true]
          rw [if_neg (by omega),if_neg (by omega),r.t0,r.h0]
          exact hstep
        · simp only [if_neg e]
          rw [if_neg (by omega),if_neg (by omega)]
          exact r.step i p (by omega) hp
    unfold aopsD at ha
    split at ha
    · rename_i hw
      split at ha
      · rename_i hkind
        split at ha
        · rename_i v hv
          split at ha
          · rename_i ts1 hp
            split at ha
            · rename_i b hb
              split at ha
              · rename_i hfr
                exact glue v ts1 h _ _ ha ⟨hp,.inr (.inl ⟨hw,hkind,hv,rfl,fun b' _ => .inr hfr⟩)⟩
              · split at ha
                · rename_i hlt
                  rw [Nat.blt_eq] at hlt
                  refine glue v ts1 h _ _ ha ⟨hp,.inr (.inl ⟨hw,hkind,hv,rfl,fun b' hb' => .inl ?_⟩)⟩
                  rw [hb] at hb'; cases hb'
                  exact ⟨hlt,(aopsD_mono ha).1 _ (List.mem_cons_self ..)⟩
                · cases ha
            · rename_i hb
              exact glue v ts1 h _ _ ha ⟨hp,.inr (.inl ⟨hw,hkind,hv,rfl,fun b' hb' => by rw [hb] at hb'; cases hb'⟩)⟩
          · cases ha
        · cases ha
      · rename_i hkind
        split at ha
        · rename_i v B hv
          split at ha
          · rename_i ts1 hp
            exact glue v ts1 _ _ _ ha ⟨hp,.inr (.inr (.inl ⟨hw,hkind,⟨B,hv,rfl⟩,(aopsD_mono ha).1 _ (List.mem_cons_self ..)⟩))⟩
          · cases ha
        · cases ha
      · rename_i hk0 hk1
        split at ha
        · rename_i v h1 hv
          split at ha
          · rename_i ts1 hp
            have h2 : 2 ≤ kindOf o.op := by
              rcases hq : kindOf o.op with _ | _ | q
              · exact (hk0 hq).elim
              · exact (hk1 hq).elim
              · omega
            exact glue v ts1 _ _ _ ha ⟨hp,.inr (.inr (.inr ⟨hw,h2,h1,hv,rfl,(aopsD_mono ha).2 _ (List.mem_cons_self ..)⟩))⟩
          · cases ha
        · cases ha
    · rename_i hw
      split at ha
      · rename_i ts1 hp
        exact glue undef ts1 h _ _ ha ⟨hp,.inl ⟨hw,rfl,rfl⟩⟩
      · cases ha
structure Shown (ops : Array Oper) : Prop where
  lt : ∀ (j : Nat) (o : Oper),ops[j]? = some o → ∀ e ∈ o.after,Region.binds .any e = true → e.on < j
  once : ∀ (i j : Nat) (p o : Oper) (t : Tmp),ops[i]? = some p → ops[j]? = some o → p.dst = some t → o.dst = some t → i = j
  looks : ∀ (i j : Nat) (p o : Oper) (t : Tmp),ops[i]? = some p → ops[j]? = some o → p.dst = some t → t ∈ o.looksAt ops → i = j ∨ (i < j ∧ Reach ops i j) ∨ (j < i ∧ Reach ops j i)
  loud : ∀ (i j : Nat) (p o : Oper),ops[i]? = some p → ops[j]? = some o → loudOp p = true → loudOp o = true → i < j → Reach ops i j
theorem shown_of {ops : Array Oper} (h : drawOK ops = true) : Shown ops := by
  unfold drawOK at h
  rw [Bool.and_eq_true] at h
  have hall := List.all_eq_true.1 h.2
  have hmem : ∀ {j o},ops[j]? = some o → (o,j) ∈ ops.toList.zipIdx := fun {j o} ho => by
    rw [List.mem_zipIdx_iff_getElem?]; simpa using ho
  have hpair : ∀ {i j p o},ops[i]? = some p → ops[j]? = some o → drawPair ops p i o j = true := fun {i j p o} hp ho => by
    have h1 := hall _ (hmem ho)
    simp only [Bool.and_eq_true] at h1
    exact List.all_eq_true.1 h1.2 _ (hmem hp)
  refine ⟨fun j o ho e he hb => ?_,fun i j p o t hp ho hd he => ?_,fun i j p o t hp ho hd hl => ?_,fun i j p o hp ho h1 h2 hlt => ?_⟩
  · have h1 := hall _ (hmem ho)
    simp only [Bool.and_eq_true] at h1
    have h2 := List.all_eq_true.1 h1.1 e (by simpa using he)
    rw [hb] at h2
    simpa [Nat.blt_eq] using h2
  · have h1 := hpair hp ho
    unfold drawPair at h1
    simp only [hd,he,Bool.and_eq_true,Bool.or_eq_true] at h1
    rcases h1.1.1 with h2 | h2
    · exact Nat.eq_of_beq_eq_true h2
    · simp at h2
  · have h1 := hpair hp ho
    unfold drawPair at h1
    simp only [hd,Bool.and_eq_true] at h1
    have h2 := h1.1.2
    have hc : (o.looksAt ops).contains t = true := by simpa using hl
    rw [hc] at h2
    by_cases e : i = j
    · exact .inl e
    · have e' : Nat.beq i j = false := by
        cases hb : Nat.beq i j with
        | true => exact absurd (Nat.eq_of_beq_eq_true hb) e
        | false => rfl
      rw [e'] at h2
      simp only [Bool.not_true,Bool.or_self,Bool.false_or] at h2
      split at h2
      · rename_i hlt
        rw [Nat.blt_eq] at hlt
        exact .inr (.inl ⟨hlt,befOf_reach h2⟩)
      · rename_i hlt
        have : ¬ i < j := fun hh => by
          have : Nat.blt i j = true := by rw [Nat.blt_eq]; exact hh
          rw [hlt] at this; cases this
        exact .inr (.inr ⟨by omega,befOf_reach h2⟩)
  · have h3 := hpair hp ho
    unfold drawPair at h3
    rw [Bool.and_eq_true] at h3
    have h4 := h3.2
    have hb : Nat.blt i j = true := by rw [Nat.blt_eq]; exact hlt
    rw [h1,h2,hb] at h4
    simp only [Bool.and_self,Bool.not_true,Bool.false_or] at h4
    exact befOf_reach h4
theorem stable_of {ops : Array Oper} {RQ : List (Nat × Nat)} {RL : List (Nat × Turned)} (h : stable ops RQ RL = true) :
    ∀ i b q lw,(i,b) ∈ RQ → (q,lw) ∈ RL → spares b lw = true ∨ Reach ops i q ∨ Reach ops q i := by
  intro i b q lw h1 h2
  unfold stable at h
  have h3 := List.all_eq_true.1 (List.all_eq_true.1 h _ h1) _ h2
  simp only [Bool.or_eq_true,ordered] at h3
  rcases h3 with h3 | h3 | h3
  · exact .inl h3
  · exact .inr (.inl (befOf_reach h3))
  · exact .inr (.inr (befOf_reach h3))
section rec
variable {RQ : List (Nat × Nat)} {RL : List (Nat × Turned)} {ts ts' : Tr Value} {h h' : AHeap} {T : Nat → Tr Value} {H : Nat → AHeap} {V : Nat → Value}
theorem rec_next (hc : CallExt call) (R : Rec P call nt base ops RQ RL 0 ops.size ts h ts' h' T H V) : ∀ i j,i ≤ j → j ≤ ops.size → (H i).next ≤ (H j).next := by
  intro i j hij
  induction j with
  | zero => intro _; obtain rfl : i = 0 := by omega
            exact Nat.le_refl _
  | succ j ih =>
    intro hj
    by_cases e : i = j + 1
    · subst e; exact Nat.le_refl _
    · refine Nat.le_trans (ih (by omega) (by omega)) ?_
      have hlt : j < ops.size := by omega
      obtain ⟨_,hs⟩ := R.step j ops[j] (Nat.zero_le _) (by simp [hlt])
      rcases hs with ⟨_,_,e1⟩ | ⟨_,_,_,e1,_⟩ | ⟨_,_,⟨B,_,e1⟩,_⟩ | ⟨_,_,h1,hv,e1,_⟩
      · rw [e1]; exact Nat.le_refl _
      · rw [e1]; exact Nat.le_refl _
      · rw [e1]; exact Nat.le_refl _
      · rw [e1]; exact (aoper_ext hc hv).next
theorem aput_get {h h' : AHeap} {a : Addr} {vs : List Value} (hp : aput h a vs = some h') {b : Nat} (hb : b ≠ a.block) : h'.get b = h.get b := by
  unfold aput at hp
  repeat' (split at hp)
  all_goals first
    | (cases hp; done)
    | (cases hp; rw [AHeap.get_put,if_neg hb])
theorem aoper_spares (hc : CallExt call) {o : Oper} {ts : Tr Value} {h h1 : AHeap} {k b : Nat} {v : Value} (hv : aoper P call o ts { h with low := k } = some (v,h1)) (hb : b < h.next) (hs : spares b (h1.low,storeB P o ts) = true) : h1.get b = h.get b := by
  unfold spares at hs
  split at hs
  · rename_i hlt
    exact (aoper_ext hc hv).old b hb (Nat.le_of_ble_eq_true hlt)
  · rename_i c _ hst
    have hne : b ≠ c := fun e => by subst e; simp at hs
    simp only at hst
    unfold storeB at hst
    split at hst
    · rename_i t x y hop
      split at hst
      · rename_i a ha
        cases hst
        unfold aoper at hv
        rw [hop] at hv
        simp only [kindOf,aloud,ha] at hv
        split at hv
        · rename_i p u h3 h4
          cases h3
          split at hv
          · rename_i h2 hst2
            cases hv
            simp only [astore] at hst2
            split at hst2
            · split at hst2
              · exact aput_get hst2 hne
              · cases hst2
            · cases hst2
          · cases hv
        · cases hv
      · cases hst
    · cases hst
  · cases hs
theorem rec_get (hc : CallExt call) (R : Rec P call nt base ops RQ RL 0 ops.size ts h ts' h' T H V) (b : Nat) (hb : b < (H 0).next) (i : Nat) : ∀ j,i ≤ j → j ≤ ops.size →
    (∀ q o,i ≤ q → q < j → ops[q]? = some o → loudOp o = true → ∀ lw,(q,lw) ∈ RL → spares b lw = true) → (∀ q,i ≤ q → q < j → b ≠ base + q) → (H j).get b = (H i).get b := by
  intro j hij
  induction j with
  | zero => intro _ _ _; obtain rfl : i = 0 := by omega
            rfl
  | succ j ih =>
    intro hj hl hn
    by_cases e : i = j + 1
    · subst e; rfl
    · rw [← ih (by omega) (by omega) (fun q o h1 h2 => hl q o h1 (by omega)) (fun q h1 h2 => hn q h1 (by omega))]
      have hlt : j < ops.size := by omega
      have hoj : ops[j]? = some ops[j] := by simp [hlt]
      obtain ⟨_,hs⟩ := R.step j ops[j] (Nat.zero_le _) hoj
      rcases hs with ⟨_,_,e1⟩ | ⟨_,_,_,e1,_⟩ | ⟨_,_,⟨B,_,e1⟩,_⟩ | ⟨_,hk,h1,hv,e1,hin⟩
      · rw [e1]
      · rw [e1]
      · rw [e1]
        have := AHeap.get_put (H j) (base + j) b (some B)
        rw [if_neg (hn j (by omega) (by omega))] at this
        exact this
      · rw [e1]
        have hloud : loudOp ops[j] = true := by unfold loudOp; exact Nat.ble_eq_true_of_le hk
        show h1.get b = (H j).get b
        exact aoper_spares hc hv (Nat.lt_of_lt_of_le hb (rec_next hc R 0 j (Nat.zero_le _) (by omega))) (hl j _ (by omega) (by omega) hoj hloud _ hin)
theorem rec_dead (hc : CallExt call) (R : Rec P call nt base ops RQ RL 0 ops.size ts h ts' h' T H V) (i0 : Nat) (hb : base + i0 < (H 0).next) (h0 : (H 0).get (base + i0) = none) : ∀ j,j ≤ i0 → j ≤ ops.size → (H j).get (base + i0) = none := by
  intro j
  induction j with
  | zero => intro _ _; exact h0
  | succ j ih =>
    intro hj hs
    have ih := ih (by omega) (by omega)
    have hlt : j < ops.size := by omega
    obtain ⟨_,hs⟩ := R.step j ops[j] (Nat.zero_le _) (by simp [hlt])
    rcases hs with ⟨_,_,e1⟩ | ⟨_,_,_,e1,_⟩ | ⟨_,_,⟨B,_,e1⟩,_⟩ | ⟨_,hk,h1,hv,e1,hin⟩
    · rw [e1]; exact ih
    · rw [e1]; exact ih
    · rw [e1]
      have := AHeap.get_put (H j) (base + j) (base + i0) (some B)
      rw [if_neg (by omega),ih] at this
      exact this
    · rw [e1]
      exact (aoper_ext hc hv).dead _ (Nat.lt_of_lt_of_le hb (rec_next hc R 0 j (Nat.zero_le _) (by omega))) ih
theorem rec_it (hc : CallExt call) (R : Rec P call nt base ops RQ RL 0 ops.size ts h ts' h' T H V) (b : Nat) (hb : b < (H 0).next) (h0 : (H 0).getIt b = none) : ∀ j,j ≤ ops.size → (H j).getIt b = none := by
  intro j
  induction j with
  | zero => intro _; exact h0
  | succ j ih =>
    intro hs
    have ih := ih (by omega)
    have hlt : j < ops.size := by omega
    obtain ⟨_,hs⟩ := R.step j ops[j] (Nat.zero_le _) (by simp [hlt])
    rcases hs with ⟨_,_,e1⟩ | ⟨_,_,_,e1,_⟩ | ⟨_,_,⟨B,_,e1⟩,_⟩ | ⟨_,hk,h1,hv,e1,hin⟩
    · rw [e1]; exact ih
    · rw [e1]; exact ih
    · rw [e1]; exact ih
    · rw [e1]
      exact (aoper_ext hc hv).itd _ (Nat.lt_of_lt_of_le hb (rec_next hc R 0 j (Nat.zero_le _) (by omega))) ih
theorem rec_tget (R : Rec P call nt base ops RQ RL 0 ops.size ts h ts' h' T H V) (sh : Shown ops) (t : Tmp) : ∀ i,i ≤ ops.size →
    (∀ j o,j < i → ops[j]? = some o → o.dst = some t → tget (T i) t = V j) ∧ ((∀ j o,j < i → ops[j]? = some o → o.dst ≠ some t) → tget (T i) t = tget (T 0) t) := by
  intro i
  induction i with
  | zero => intro _; exact ⟨fun j o hj => absurd hj (Nat.not_lt_zero _),fun _ => rfl⟩
  | succ i ih =>
    intro hi
    obtain ⟨ih1,ih2⟩ := ih (by omega)
    have hlt : i < ops.size := by omega
    have hoi : ops[i]? = some ops[i] := by simp [hlt]
    obtain ⟨hp,_⟩ := R.step i ops[i] (Nat.zero_le _) hoi
    have hput : ∀ u,tget (T (i + 1)) u = if ops[i].dst = some u then V i else tget (T i) u := fun u => by
      unfold putA at hp
      split at hp
      · rename_i hd
        rw [← Option.some.inj hp,hd]; simp
      · rename_i d hd
        split at hp
        · rw [← Option.some.inj hp,tget_set,hd]
          by_cases e : u = d
          · subst e; simp
          · rw [if_neg e,if_neg (by simpa using Ne.symm e)]
        · cases hp
    refine ⟨fun j o hj ho hd => ?_,fun hno => ?_⟩
    · rw [hput]
      by_cases e : j = i
      · subst e
        rw [hoi] at ho; cases ho
        rw [if_pos hd]
      · rw [if_neg (fun he => e (sh.once j i _ _ t ho hoi hd he))]
        exact ih1 j o (by omega) ho hd
    · rw [hput,if_neg (hno i _ (by omega) hoi)]
      exact ih2 (fun j o hj => hno j o (by omega))
def blkIn : Value → Option Nat
  | .pointer (some a) => some a.block
  | .slice (some a) n _ => match Nat.beq n 0 with
    | true => none
    | false => some a.block
  | _ => none
theorem blkIn_lt {m : BMap} {h : AHeap} {w : World} (hR : Rel P m h w) {v v' : Value} (hv : VRel m v v') {b : Nat} (hb : blkIn v = some b) : b < h.next := by
  have key : ∀ L,m b = some L → b < h.next := fun L hL => by
    rcases Nat.lt_or_ge b h.next with h' | h'
    · exact h'
    · rw [hR.fresh b h'] at hL; cases hL
  unfold blkIn at hb
  split at hb
  · rename_i a
    cases hb
    obtain ⟨L,h1,_⟩ := hv.inv_ptr
    exact key L h1
  · rename_i a n c
    split at hb
    · cases hb
    · rename_i hn
      cases hb
      obtain ⟨a',c',_,h1,_⟩ := hv.inv_slice
      obtain ⟨L,h2,_⟩ := h1 (.inl (fun e => by rw [e] at hn; cases hn))
      exact key L h2
  · cases hb
theorem writerOf_some {ops : Array Oper} {i t j : Nat} (h : writerOf ops i t = some j) : j < i ∧ ∃ o,ops[j]? = some o ∧ o.dst = some t := by
  unfold writerOf at h
  have h1 := List.mem_of_find?_eq_some h
  have h2 := List.find?_some h
  refine ⟨List.mem_range.1 h1, ?_⟩
  split at h2
  · rename_i o ho
    split at h2
    · rename_i d hd
      exact ⟨o,ho,by rw [hd,Nat.eq_of_beq_eq_true h2]⟩
    · cases h2
  · cases h2
theorem writerOf_none {ops : Array Oper} {i t : Nat} (h : writerOf ops i t = none) : ∀ j o,j < i → ops[j]? = some o → o.dst ≠ some t := fun j o hj ho hd => by
  unfold writerOf at h
  have := List.find?_eq_none.1 h j (List.mem_range.2 hj)
  simp [ho,hd] at this
theorem freeRd_split {ops : Array Oper} {k : Nat} {o : Oper} (h : freeRd ops k o = true) : ((∃ ty t,o.op = .load ty (.tmp t) ∧ oldF ops 30 k t = true) ∨ ∃ s d t,o.op = .convert s d (.tmp t) ∧ madeF ops k t = true) ∧
    ∀ (q : Nat) (p : Oper),ops[q]? = some p → loudOp p = true → Reach ops k q ∨ Reach ops q k := by
  unfold freeRd at h
  rw [Bool.and_eq_true] at h
  refine ⟨?_,fun q p hq hl => ?_⟩
  · split at h
    · rename_i ty t e; exact .inl ⟨ty,t,e,h.1⟩
    · rename_i s d t e; exact .inr ⟨s,d,t,e,h.1⟩
    · exact absurd h.1 (by decide)
  · have h1 := List.all_eq_true.1 h.2 (p,q) (by rw [List.mem_zipIdx_iff_getElem?]; simpa using hq)
    simp only [Bool.or_eq_true] at h1
    rcases h1 with h1 | h1
    · have := Nat.le_of_ble_eq_true h1
      unfold loudOp at hl
      have := Nat.le_of_ble_eq_true hl
      omega
    · unfold ordered at h1
      rw [Bool.or_eq_true] at h1
      exact h1.imp befOf_reach befOf_reach
theorem old_blk (R : Rec P call nt base ops RQ RL 0 ops.size ts h ts' h' T H V) (sh : Shown ops) (hT0 : ∀ t b,blkIn (tget (T 0) t) = some b → b < base) : ∀ (f i t : Nat),i ≤ ops.size → oldF ops f i t = true → ∀ b,blkIn (tget (T i) t) = some b → b < base
  | 0,i,t,_,h,_,_ => by cases h
  | f + 1,i,t,hi,h,b,hb => by
    unfold oldF at h
    obtain ⟨r1,r2⟩ := rec_tget R sh t i hi
    split at h
    · rename_i hw
      rw [r2 (writerOf_none hw)] at hb
      exact hT0 t b hb
    · rename_i j hw
      obtain ⟨hji,o,ho,hd⟩ := writerOf_some hw
      rw [r1 j o hji ho hd] at hb
      simp only [ho] at h
      obtain ⟨_,hs⟩ := R.step j o (Nat.zero_le _) ho
      have quiet : kindOf o.op = 0 → aq P o.op (T j) (H j) = some (V j) ∨ V j = undef := fun hk => by
        rcases hs with ⟨_,hv,_⟩ | ⟨_,_,hv,_⟩ | ⟨_,hk',_⟩ | ⟨_,hk',_⟩
        · exact .inr hv
        · exact .inl hv
        · omega
        · omega
      have nou : V j = undef → False := fun e => by rw [e] at hb; cases hb
      split at h
      · rename_i u hop
        have hq := (quiet (by rw [hop]; rfl)).resolve_right nou
        rw [hop] at hq
        simp only [aq,ev_tget] at hq
        rw [← Option.some.inj hq] at hb
        exact old_blk R sh hT0 f j u (by omega) h b hb
      · rename_i ty u ix hop
        have hq := (quiet (by rw [hop]; rfl)).resolve_right nou
        rw [hop] at hq
        simp only [aq,aqIndexAddr,ev_tget] at hq
        refine old_blk R sh hT0 f j u (by omega) h b ?_
        split at hq
        · rename_i a0 iv n e h1 h2 h3
          split at hq
          · rw [← Option.some.inj hq] at hb
            rw [Option.some.inj h1]; unfold blkIn at hb ⊢; simpa only [add_block] using hb
          · cases hq
        · rename_i a0 n c iv e h1 h2 h3
          split at hq
          · rename_i k inf hk _
            rw [← Option.some.inj hq] at hb
            rw [Option.some.inj h1]
            have hn : Nat.beq n 0 = false := by
              cases n with
              | zero =>
                unfold intIn at hk
                split at hk
                · split at hk
                  · rename_i h7; exact absurd (Nat.le_of_ble_eq_true h7) (Nat.not_succ_le_zero _)
                  · cases hk
                · cases hk
              | succ n => rfl
            unfold blkIn at hb ⊢
            simp only [hn]
            simpa only [add_block] using hb
          · cases hq
        · cases hq
      · rename_i ty u fd hop
        have hq := (quiet (by rw [hop]; rfl)).resolve_right nou
        rw [hop] at hq
        simp only [aq,aqFieldAddr,ev_tget] at hq
        refine old_blk R sh hT0 f j u (by omega) h b ?_
        split at hq
        · rename_i a0 fields h1 h2
          rw [Option.some.inj h1]
          repeat' split at hq
          all_goals first
            | (cases hq; done)
            | (rw [← Option.some.inj hq] at hb; unfold blkIn at hb ⊢; simpa only [add_block] using hb)
        · cases hq
      · cases h
theorem made_blk (R : Rec P call nt base ops RQ RL 0 ops.size ts h ts' h' T H V) (sh : Shown ops) {i t : Nat} (hi : i ≤ ops.size) (hm : madeF ops i t = true) {b : Nat} (hb : blkIn (tget (T i) t) = some b) :
    ∃ j o,j < i ∧ ops[j]? = some o ∧ o.dst = some t ∧ kindOf o.op = 1 ∧ wantedA ops o (T j) = true ∧ ∃ B,b = base + j ∧ anew P o.op (T j) (base + j) = some (V j,B) ∧ H (j + 1) = { H j with m := (H j).m.set (base + j) (some B) } := by
  obtain ⟨r1,_⟩ := rec_tget R sh t i hi
  unfold madeF at hm
  split at hm
  · cases hm
  · rename_i j hw
    obtain ⟨hji,o,ho,hd⟩ := writerOf_some hw
    rw [r1 j o hji ho hd] at hb
    simp only [ho] at hm
    split at hm
    · rename_i ty len parts hop
      have hk1 : kindOf o.op = 1 := by rw [hop]; rfl
      obtain ⟨_,hs⟩ := R.step j o (Nat.zero_le _) ho
      rcases hs with ⟨_,hv,_⟩ | ⟨_,hk',_⟩ | ⟨hw',_,⟨B,hv,hH⟩,_⟩ | ⟨_,hk',_⟩
      · rw [hv] at hb; cases hb
      · rw [hk1] at hk'; cases hk'
      · refine ⟨j,o,hji,ho,hd,hk1,hw',B, ?_,hv,hH⟩
        rw [hop] at hv
        simp only [anew,abuildSlice] at hv
        repeat' split at hv
        all_goals first
          | (cases hv; done)
          | skip
        simp only [Option.some.injEq,Prod.mk.injEq] at hv
        rw [← hv.1] at hb
        unfold blkIn at hb
        simp only [] at hb
        split at hb
        · cases hb
        · exact (Option.some.inj hb).symm
      · omega
    · cases hm
end rec
section worlds
variable {m m0 : BMap} {h h0 h1 : AHeap} {w w0 : World}
theorem rel_newid (hR : Rel P m h w) {id : Nat} {B : Blk} {C : Array Value} {e : TypeId} (hf : m id = none) (hid : id < h.next) (hlive : ∀ B',h.get id = some B' → B' = B) (hit : h.getIt id = none)
    (hl : LRel m B.cells C.toList) (hu : B.unk = false) :
    Rel P (upd m id ⟨w.heap.size,0,0⟩) h (w.alloc (.cells C e)) ∧ BlkRel P (upd m id ⟨w.heap.size,0,0⟩) (w.alloc (.cells C e)) B ⟨w.heap.size,0,0⟩ := by
  have hext := upd_ext (L := ⟨w.heap.size,0,0⟩) hf
  obtain ⟨l1,l2⟩ := lrel_arr hl
  have hblk : BlkRel P (upd m id ⟨w.heap.size,0,0⟩) (w.alloc (.cells C e)) B ⟨w.heap.size,0,0⟩ :=
    blk_new 0 (cells_new w C e) (by omega) (fun i hi => (l2 i hi).mono hext) (fun hh => by rw [hu] at hh; cases hh)
  have hcase : ∀ a K,upd m id ⟨w.heap.size,0,0⟩ a = some K → (a = id ∧ K = ⟨w.heap.size,0,0⟩) ∨ (a ≠ id ∧ m a = some K) := fun a K hk => by
    unfold upd at hk
    split at hk
    · cases hk; exact .inl ⟨‹_›,rfl⟩
    · exact .inr ⟨‹_›,hk⟩
  refine ⟨⟨?_, ?_, ?_, ?_,fun g hg => hext _ _ (hR.glob g hg),hR.wf,hR.its.keep rfl (Nat.le_refl _) (fun a K hk hs => by
      rcases hcase a K hk with ⟨rfl,_⟩ | ⟨_,hk⟩
      · rw [hit] at hs; cases hs
      · exact hk) (fun r x hr => by rw [heap_alloc_lt w _ r (Array.getElem?_eq_some_iff.1 hr).1]; exact hr)⟩,hblk⟩
  · intro a K hk
    rw [World.size_alloc]
    rcases hcase a K hk with ⟨_,rfl⟩ | ⟨_,hk⟩
    · exact Nat.lt_succ_self _
    · exact Nat.lt_succ_of_lt (hR.lt a K hk)
  · intro a ha
    unfold upd
    rw [if_neg (by omega)]
    exact hR.fresh a ha
  · intro a D K hd hk
    rcases hcase a K hk with ⟨rfl,rfl⟩ | ⟨_,hk⟩
    · rw [hlive D hd]; exact hblk
    · exact ((hR.blk a D K hd hk).mono hext).same (heap_alloc_lt w _ _ (hR.lt a K hk))
  · intro a a' D1 D2 K1 K2 g1 g2 k1 k2 he hne
    rcases hcase a K1 k1 with ⟨rfl,rfl⟩ | ⟨n1,q1⟩
    · rcases hcase a' K2 k2 with ⟨rfl,rfl⟩ | ⟨n2,k2⟩
      · exact absurd rfl hne
      · have := hR.lt a' K2 k2; simp at he; omega
    · rcases hcase a' K2 k2 with ⟨rfl,rfl⟩ | ⟨n2,q2⟩
      · have := hR.lt a K1 q1; simp at he; omega
      · exact hR.inj a a' D1 D2 K1 K2 g1 g2 q1 q2 he hne
theorem sim_newid (s : Sim m0 h0 w0 m h w) {id : Nat} {o : Obj} (hf : m id = none) (hid : h0.next ≤ id) : Sim m0 h0 w0 (upd m id ⟨w.heap.size,0,0⟩) h (w.alloc o) := by
  have hext := upd_ext (L := ⟨w.heap.size,0,0⟩) hf
  have hs := s.size
  refine ⟨fun a L hh => hext _ _ (s.ext a L hh),s.os,s.output,s.tape,by rw [World.size_alloc]; omega,fun r hr hno hit => ?_,fun a K hk => ?_,s.low,s.next,fun a ha => ?_,s.old,s.dead,s.wrs,s.itd⟩
  · rw [heap_alloc_lt w o r (by omega)]; exact s.frame r hr hno hit
  · unfold upd at hk
    split at hk
    · cases hk; exact .inr (.inl hs)
    · exact s.img a K hk
  · unfold upd
    rw [if_neg (by omega)]
    exact s.newm a ha
theorem rel_fill (hR : Rel P m h w) {id : Nat} {B : Blk} (hid : id < h.next) (hm : m id = none ∨ ∃ L,m id = some L ∧ BlkRel P m w B L ∧ ∀ a' L',m a' = some L' → L'.b = L.b → a' = id) :
    Rel P m { h with m := h.m.set id (some B) } w := by
  have hget : ∀ k,({ h with m := h.m.set id (some B) } : AHeap).get k = if k = id then some B else h.get k := fun k => AHeap.get_put h id k (some B)
  refine ⟨hR.lt,hR.fresh,fun a D K hd hk => ?_,fun a a' D1 D2 K1 K2 g1 g2 k1 k2 he hne => ?_,hR.glob,fun a ha => ?_,⟨hR.its.at_,hR.its.inj,hR.its.wf⟩⟩
  · rw [hget] at hd
    split at hd
    · rename_i e; subst e
      cases hd
      rcases hm with hm | ⟨L,hm,hb,_⟩
      · rw [hm] at hk; cases hk
      · rw [hm] at hk; cases hk; exact hb
    · exact hR.blk a D K hd hk
  · rw [hget] at g1 g2
    split at g1
    · rename_i e; subst e
      rcases hm with hm | ⟨L,hm,hb,hu⟩
      · rw [hm] at k1; cases k1
      · rw [hm] at k1; cases k1
        exact absurd (hu a' K2 k2 he.symm).symm hne
    · split at g2
      · rename_i e; subst e
        rcases hm with hm | ⟨L,hm,hb,hu⟩
        · rw [hm] at k2; cases k2
        · rw [hm] at k2; cases k2
          exact absurd (hu a K1 k1 he) hne
      · exact hR.inj a a' D1 D2 K1 K2 g1 g2 k1 k2 he hne
  · rw [hget,if_neg]
    · exact hR.wf a ha
    · have : h.next ≤ a := ha
      omega
theorem sim_fill (s : Sim m0 h0 w0 m h w) {id : Nat} {B : Blk} (hid : h0.next ≤ id) : Sim m0 h0 w0 m { h with m := h.m.set id (some B) } w := by
  have hget : ∀ k,k < h0.next → ({ h with m := h.m.set id (some B) } : AHeap).get k = h.get k := fun k hk => by
    have := AHeap.get_put h id k (some B)
    rw [if_neg (by omega)] at this
    exact this
  refine ⟨s.ext,s.os,s.output,s.tape,s.size,s.frame,s.img,s.low,s.next,s.newm,fun a ha hl => (hget a ha).trans (s.old a ha hl),fun a ha hd => (hget a ha).trans (s.dead a ha hd),fun a D ha hd => s.wrs a D ha ((hget a ha).symm.trans hd),s.itd⟩
end worlds
section inv
variable {RQ : List (Nat × Nat)} {RL : List (Nat × Turned)} {ts ts' : Tr Value} {h h' : AHeap} {T : Nat → Tr Value} {H : Nat → AHeap} {V : Nat → Value}
def Done (listed : Array Bool) (i : Nat) : Prop := listed.getD i false = true
def Made (P : Program) (ops : Array Oper) (base : Nat) (T : Nat → Tr Value) (m : BMap) (w : World) (j : Nat) : Prop :=
  ∀ (o : Oper) (v : Value) (B : Blk),ops[j]? = some o → kindOf o.op = 1 → wantedA ops o (T j) = true → anew P o.op (T j) (base + j) = some (v,B) →
    ∃ L,m (base + j) = some L ∧ BlkRel P m w B L ∧ ∀ a' L',m a' = some L' → L'.b = L.b → a' = base + j
structure DInv (P : Program) (nt base : Nat) (ops : Array Oper) (T : Nat → Tr Value) (H : Nat → AHeap) (V : Nat → Value) (m0 : BMap) (h0 : AHeap) (w0 : World) (m : BMap) (p : Nat) (listed : Array Bool) (a : Act) (w : World) : Prop where
  size : listed.size = ops.size
  asz : a.tmps.size = nt
  adf : a.defers = []
  closed : Closed ops (Done listed)
  t1 : ∀ (i : Nat) (o : Oper) (d : Tmp),Done listed i → ops[i]? = some o → o.dst = some d → VRel m (V i) (a.tmps.getD d undef)
  t2 : ∀ (t : Tmp),(∀ (i : Nat) (o : Oper),Done listed i → ops[i]? = some o → o.dst ≠ some t) → VRel m (tget (T 0) t) (a.tmps.getD t undef)
  ple : p ≤ ops.size
  pnot : ∀ o,ops[p]? = some o → loudOp o = true ∧ ¬ Done listed p
  pall : ∀ (i : Nat) (o : Oper),i < p → ops[i]? = some o → loudOp o = true → Done listed i
  rel : Rel P m (H p) w
  sim : Sim m0 h0 w0 m (H p) w
  n1 : ∀ j,Done listed j → p ≤ j → Made P ops base T m w j
  n2 : ∀ j,j < ops.size → ¬ Done listed j → m (base + j) = none
theorem advance (R : Rec P call nt base ops RQ RL 0 ops.size ts h ts' h' T H V) (hnx : ∀ i,i ≤ ops.size → base + ops.size ≤ (H i).next) {m0 m : BMap} {h0 : AHeap} {w0 w : World} {listed : Array Bool} (hb0 : h0.next = base)
    (n2 : ∀ j,j < ops.size → ¬ Done listed j → m (base + j) = none) :
    ∀ (d k : Nat),k + d = ops.size → Rel P m (H k) w → Sim m0 h0 w0 m (H k) w → (∀ j,Done listed j → k ≤ j → Made P ops base T m w j) →
      (∀ (i : Nat) (o : Oper),i < k → ops[i]? = some o → loudOp o = true → Done listed i) → (∀ (i : Nat) (o : Oper),k ≤ i → ops[i]? = some o → loudOp o = true → ¬ Done listed i) →
      ∃ p,k ≤ p ∧ p ≤ ops.size ∧ (∀ o,ops[p]? = some o → loudOp o = true ∧ ¬ Done listed p) ∧ (∀ (i : Nat) (o : Oper),i < p → ops[i]? = some o → loudOp o = true → Done listed i) ∧
        Rel P m (H p) w ∧ Sim m0 h0 w0 m (H p) w
  | 0,k,hk,hR,hS,_,hall,_ => ⟨k,Nat.le_refl _,by omega,fun o ho => by
      have := (Array.getElem?_eq_some_iff.1 ho).1; omega,hall,hR,hS⟩
  | d + 1,k,hk,hR,hS,hmade,hall,hnone => by
    have hlt : k < ops.size := by omega
    have hok : ops[k]? = some ops[k] := by simp [hlt]
    cases hl : loudOp ops[k] with
    | true =>
      refine ⟨k,Nat.le_refl _,by omega,fun o ho => ?_,hall,hR,hS⟩
      rw [hok] at ho; cases ho
      exact ⟨hl,hnone k _ (Nat.le_refl _) hok hl⟩
    | false =>
      obtain ⟨_,hs⟩ := R.step k ops[k] (Nat.zero_le _) hok
      have next : Rel P m (H (k + 1)) w ∧ Sim m0 h0 w0 m (H (k + 1)) w := by
        rcases hs with ⟨_,_,e1⟩ | ⟨_,_,_,e1,_⟩ | ⟨hw,hkind,⟨B,hv,e1⟩,_⟩ | ⟨_,h2,_⟩
        · rw [e1]; exact ⟨hR,hS⟩
        · rw [e1]; exact ⟨hR,hS⟩
        · have hid : base + k < (H k).next := by have := hnx k (by omega); omega
          have hm : m (base + k) = none ∨ ∃ L,m (base + k) = some L ∧ BlkRel P m w B L ∧ ∀ a' L',m a' = some L' → L'.b = L.b → a' = base + k := by
            by_cases hd : Done listed k
            · exact .inr (hmade k hd (Nat.le_refl _) _ _ _ hok hkind hw hv)
            · exact .inl (n2 k hlt hd)
          rw [e1]
          exact ⟨rel_fill hR hid hm,sim_fill hS (by omega)⟩
        · unfold loudOp at hl
          rw [Nat.ble_eq_true_of_le h2] at hl; cases hl
      obtain ⟨p,q1,q2⟩ := advance R hnx hb0 n2 d (k + 1) (by omega) next.1 next.2 (fun j hj hkj => hmade j hj (by omega))
        (fun i o hi ho hlo => by
          by_cases e : i = k
          · subst e; rw [hok] at ho; cases ho; rw [hl] at hlo; cases hlo
          · exact hall i o (by omega) ho hlo)
        (fun i o hi => hnone i o (by omega))
      exact ⟨p,by omega,q2⟩
def tsS (ops : Array Oper) (listed : Array Bool) (V : Nat → Value) (t0 : Tr Value) : Nat → Tr Value
  | 0 => t0
  | k + 1 => if listed.getD k false then (match (ops[k]?).bind (·.dst) with
      | some d => (tsS ops listed V t0 k).set d (V k)
      | none => tsS ops listed V t0 k) else tsS ops listed V t0 k
theorem tsS_get (sh : Shown ops) (listed : Array Bool) (V : Nat → Value) (t0 : Tr Value) (t : Tmp) : ∀ k,k ≤ ops.size →
    (∀ (j : Nat) (o : Oper),j < k → Done listed j → ops[j]? = some o → o.dst = some t → tget (tsS ops listed V t0 k) t = V j) ∧
    ((∀ (j : Nat) (o : Oper),j < k → Done listed j → ops[j]? = some o → o.dst ≠ some t) → tget (tsS ops listed V t0 k) t = tget t0 t) := by
  intro k
  induction k with
  | zero => intro _; exact ⟨fun j o hj => absurd hj (Nat.not_lt_zero _),fun _ => rfl⟩
  | succ k ih =>
    intro hk
    obtain ⟨ih1,ih2⟩ := ih (by omega)
    have hlt : k < ops.size := by omega
    have hok : ops[k]? = some ops[k] := by simp [hlt]
    have hput : tget (tsS ops listed V t0 (k + 1)) t = if listed.getD k false = true ∧ ops[k].dst = some t then V k else tget (tsS ops listed V t0 k) t := by
      simp only [tsS,hok,Option.bind_some]
      cases hd : listed.getD k false with
      | false => simp
      | true =>
        simp only [if_true,true_and]
        cases hdst : ops[k].dst with
        | none => simp
        | some d =>
          simp only []
          rw [tget_set]
          by_cases e : t = d
          · subst e; simp
          · rw [if_neg e,if_neg (by simpa using Ne.symm e)]
    refine ⟨fun j o hj hd ho he => ?_,fun hno => ?_⟩
    · rw [hput]
      by_cases e : j = k
      · subst e
        rw [hok] at ho; cases ho
        rw [if_pos ⟨hd,he⟩]
      · rw [if_neg (fun hh => e (sh.once j k _ _ t ho hok he hh.2))]
        exact ih1 j o (by omega) hd ho he
    · rw [hput,if_neg (fun hh => hno k _ (by omega) hh.1 hok hh.2)]
      exact ih2 (fun j o hj => hno j o (by omega))
theorem done_set {listed : Array Bool} {i : Nat} (hlt : i < listed.size) (k : Nat) : Done (listed.setIfInBounds i true) k ↔ k = i ∨ Done listed k := by
  unfold Done
  by_cases e : k = i
  · subst e; simp [Array.getD,hlt]
  · rw [getD_set_ne false (Ne.symm e)]; simp [e]
theorem dinv_put (R : Rec P call nt base ops RQ RL 0 ops.size ts h ts' h' T H V) (sh : Shown ops) {m0 m m' : BMap} {h0 : AHeap} {w0 w w' : World} {p p' i : Nat} {listed : Array Bool} {a : Act} {o : Oper} {v' : Value}
    (I : DInv P nt base ops T H V m0 h0 w0 m p listed a w) (hi : i ∈ Region.ready .any ops listed) (ho : ops[i]? = some o) (hext : ∀ b L,m b = some L → m' b = some L) (hv : VRel m' (V i) v')
    (hple : p' ≤ ops.size) (hpnot : ∀ o,ops[p']? = some o → loudOp o = true ∧ ¬ Done (listed.setIfInBounds i true) p')
    (hpall : ∀ (k : Nat) (o : Oper),k < p' → ops[k]? = some o → loudOp o = true → Done (listed.setIfInBounds i true) k)
    (hR : Rel P m' (H p') w') (hS : Sim m0 h0 w0 m' (H p') w') (hn1 : ∀ j,Done (listed.setIfInBounds i true) j → p' ≤ j → Made P ops base T m' w' j)
    (hn2 : ∀ j,j < ops.size → ¬ Done (listed.setIfInBounds i true) j → m' (base + j) = none) :
    DInv P nt base ops T H V m0 h0 w0 m' p' (listed.setIfInBounds i true) (a.put o.dst v') w' := by
  obtain ⟨hun,o',ho',hafter⟩ := mem_ready.1 hi
  rw [ho] at ho'; cases ho'
  have hlt : i < ops.size := (Array.getElem?_eq_some_iff.1 ho).1
  have hlt' : i < listed.size := by rw [I.size]; exact hlt
  have hD := fun k => done_set hlt' k
  obtain ⟨hp,_⟩ := R.step i o (Nat.zero_le _) ho
  have hdlt : ∀ d,o.dst = some d → d < nt := fun d hd => by
    unfold putA at hp
    rw [hd] at hp
    simp only [] at hp
    split at hp
    · rename_i hb; rwa [Nat.blt_eq] at hb
    · cases hp
  have hget : ∀ t,o.dst ≠ some t → (a.put o.dst v').tmps.getD t undef = a.tmps.getD t undef := fun t ht => by
    unfold Act.put
    cases hd : o.dst with
    | none => rfl
    | some d =>
      simp only [Array.getD_eq_getD_getElem?]
      rw [Array.getElem?_setIfInBounds_ne (fun e => ht (by rw [hd,e]))]
  refine ⟨by simpa using I.size, ?_, ?_, ?_, ?_, ?_,hple,hpnot,hpall,hR,hS,hn1,hn2⟩
  · unfold Act.put
    cases o.dst <;> simpa using I.asz
  · unfold Act.put
    cases o.dst <;> exact I.adf
  · intro j q hj hq e he hb
    rw [hD] at hj ⊢
    rcases hj with rfl | hj
    · rw [ho] at hq; cases hq
      exact .inr (hafter e he hb)
    · exact .inr (I.closed j q hj hq e he hb)
  · intro j q d hj hq hd
    rw [hD] at hj
    by_cases e : j = i
    · subst e
      rw [ho] at hq; cases hq
      have hdn := hdlt d hd
      have : (a.put o.dst v').tmps.getD d undef = v' := by
        unfold Act.put
        rw [hd]
        have := I.asz
        simp [Array.getD,this,hdn]
      rw [this]
      exact hv
    · rw [hget d (fun he => e (sh.once j i q o d hq ho hd he))]
      exact (I.t1 j q d (hj.resolve_left e) hq hd).mono hext
  · intro t hno
    rw [hget t (hno i o ((hD i).2 (.inl rfl)) ho)]
    exact (I.t2 t (fun j q hj hq => hno j q ((hD j).2 (.inr hj)) hq)).mono hext
theorem dinv_step (hc : CallExt call) (hcall : CallOK P call) (R : Rec P call nt base ops RQ RL 0 ops.size ts h ts' h' T H V) (sh : Shown ops)
    (st : ∀ i b q lw,(i,b) ∈ RQ → (q,lw) ∈ RL → spares b lw = true ∨ Reach ops i q ∨ Reach ops q i) {m0 : BMap} {h0 : AHeap} {w0 : World} (hR0 : Rel P m0 h0 w0) (hb0 : h0.next = base) (hT0 : ∀ t b,blkIn (tget (T 0) t) = some b → b < base)
    (hH0 : H 0 = { h0 with next := base + ops.size }) {Q : Exit → Act → World → Prop} {m : BMap} {p : Nat} {listed : Array Bool} {a : Act} {w : World} (I : DInv P nt base ops T H V m0 h0 w0 m p listed a w)
    {i : Nat} (hi : i ∈ Region.ready .any ops listed) : wpOp P ops Q i (fun a' w' => ∃ m' p',DInv P nt base ops T H V m0 h0 w0 m' p' (listed.setIfInBounds i true) a' w') a w := by
  obtain ⟨hun,o,ho,hafter⟩ := mem_ready.1 hi
  have hlt : i < ops.size := (Array.getElem?_eq_some_iff.1 ho).1
  have hlt' : i < listed.size := by rw [I.size]; exact hlt
  have hD := fun k => done_set hlt' k
  have hnd : ¬ Done listed i := by
    unfold Done
    simp only [Array.getD,hlt',dif_pos] at hun ⊢
    rw [hun]; simp
  have hreach : ∀ j,Reach ops j i → Done listed j := fun j hr => hr.closed I.closed (fun o' ho' e he hb => by rw [ho] at ho'; cases ho'; exact hafter e he hb)
  have hnaft : ∀ j,Done listed j → ¬ Reach ops i j := fun j hj hr => hnd (hr.closed I.closed (fun o' ho' e he hb => I.closed j o' hj ho' e he hb))
  have hnx : ∀ k,k ≤ ops.size → base + ops.size ≤ (H k).next := fun k hk => by
    have h1 := rec_next hc R 0 k (Nat.zero_le _) hk
    rw [hH0] at h1
    exact h1
  have hploud : loudOp o = true → i = p := fun hl => by
    rcases Nat.lt_trichotomy i p with h1 | h1 | h1
    · exact absurd (I.pall i o h1 ho hl) hnd
    · exact h1
    · have hps : p < ops.size := by omega
      have hop : ops[p]? = some ops[p] := by simp [hps]
      obtain ⟨l1,l2⟩ := I.pnot _ hop
      exact absurd (hreach p (sh.loud p i _ o hop ho l1 hl h1)) l2
  have hbehind : ∀ (q : Nat) (oq : Oper),p < q → ops[q]? = some oq → loudOp oq = true → ¬ Done listed q := fun q oq hpq hq hl hd => by
    have hps : p < ops.size := by have := (Array.getElem?_eq_some_iff.1 hq).1; omega
    have hop : ops[p]? = some ops[p] := by simp [hps]
    obtain ⟨l1,l2⟩ := I.pnot _ hop
    exact l2 ((sh.loud p q _ oq hop hq l1 hl hpq).closed I.closed (fun o' ho' e he hb => I.closed q o' hd ho' e he hb))
  have hT : TRel m nt (tsS ops listed V (T 0) ops.size) a := by
    refine ⟨I.asz,I.adf,fun t => ?_⟩
    by_cases hex : ∃ (j : Nat) (q : Oper),Done listed j ∧ ops[j]? = some q ∧ q.dst = some t
    · obtain ⟨j,q,h1,h2,h3⟩ := hex
      rw [(tsS_get sh listed V (T 0) t ops.size (Nat.le_refl _)).1 j q (Array.getElem?_eq_some_iff.1 h2).1 h1 h2 h3]
      exact I.t1 j q t h1 h2 h3
    · have hno : ∀ (j : Nat) (q : Oper),Done listed j → ops[j]? = some q → q.dst ≠ some t := fun j q h1 h2 h3 => hex ⟨j,q,h1,h2,h3⟩
      rw [(tsS_get sh listed V (T 0) t ops.size (Nat.le_refl _)).2 (fun j q _ => hno j q)]
      exact I.t2 t hno
  have hagree : ∀ t ∈ o.looksAt ops,tget (tsS ops listed V (T 0) ops.size) t = tget (T i) t := fun t ht => by
    obtain ⟨r1,r2⟩ := rec_tget R sh t i (by omega)
    obtain ⟨s1,s2⟩ := tsS_get sh listed V (T 0) t ops.size (Nat.le_refl _)
    by_cases hex : ∃ (j : Nat) (q : Oper),ops[j]? = some q ∧ q.dst = some t
    · obtain ⟨j,q,h2,h3⟩ := hex
      have hjlt := (Array.getElem?_eq_some_iff.1 h2).1
      have none_of : ¬ Done listed j → ¬ j < i → tget (tsS ops listed V (T 0) ops.size) t = tget (T i) t := fun hnj hji => by
        rw [s2 (fun k o' _ hk hok hd => by
          have := sh.once k j o' q t hok h2 hd h3; subst this; exact hnj hk),r2 (fun k o' hk hok hd => by
          have := sh.once k j o' q t hok h2 hd h3; subst this; exact hji hk)]
      rcases sh.looks j i q o t h2 ho h3 ht with e | ⟨hji,hr⟩ | ⟨hij,hr⟩
      · subst e; exact none_of hnd (by omega)
      · rw [s1 j q hjlt (hreach j hr) h2 h3,r1 j q hji h2 h3]
      · exact none_of (fun hj => hnaft j hj hr) (by omega)
    · rw [s2 (fun j q _ _ hq hd => hex ⟨j,q,hq,hd⟩),r2 (fun j q _ hq hd => hex ⟨j,q,hq,hd⟩)]
  have he : ∀ x ∈ o.op.operands,ev P (T i) x = ev P (tsS ops listed V (T 0) ops.size) x := fun x hx => ev_congr (fun t ht => (hagree t (by
    subst ht
    unfold Oper.looksAt
    refine List.mem_append_left _ (List.mem_filterMap.2 ⟨.tmp t,by simpa using hx,rfl⟩))).symm)
  have hw : Region.wanted o (yielded ops a.tmps) = wantedA ops o (T i) := by
    rw [wanted_rel hT]
    refine wantedA_congr (fun t j want hg hd => hagree t ?_)
    unfold Oper.looksAt
    refine List.mem_append_right _ ?_
    rw [hg]
    simp only [hd,Option.toList_some,List.mem_singleton]
  have hnl : loudOp o = false → i ≠ p := fun hl e => by
    subst e
    have := (I.pnot o ho).1
    rw [hl] at this; cases this
  have same_p : loudOp o = false → (∀ q,ops[p]? = some q → loudOp q = true ∧ ¬ Done (listed.setIfInBounds i true) p) ∧ (∀ (k : Nat) (q : Oper),k < p → ops[k]? = some q → loudOp q = true → Done (listed.setIfInBounds i true) k) := fun hl =>
    ⟨fun q hq => ⟨(I.pnot q hq).1,fun hd => by
      rcases (hD p).1 hd with e | hd
      · exact hnl hl e.symm
      · exact (I.pnot q hq).2 hd⟩,fun k q hk hq hlq => (hD k).2 (.inr (I.pall k q hk hq hlq))⟩
  have n2' : ∀ j,j < ops.size → ¬ Done (listed.setIfInBounds i true) j → m (base + j) = none := fun j hj hd => I.n2 j hj (fun hh => hd ((hD j).2 (.inr hh)))
  have on_from : ∀ {m' : BMap} {w' : World},i = p → (∀ j,j < ops.size → ¬ Done (listed.setIfInBounds i true) j → m' (base + j) = none) → Rel P m' (H (p + 1)) w' → Sim m0 h0 w0 m' (H (p + 1)) w' →
      (∀ j,Done (listed.setIfInBounds i true) j → p + 1 ≤ j → Made P ops base T m' w' j) → ∃ p',p + 1 ≤ p' ∧ p' ≤ ops.size ∧ (∀ o,ops[p']? = some o → loudOp o = true ∧ ¬ Done (listed.setIfInBounds i true) p') ∧
        (∀ (k : Nat) (o : Oper),k < p' → ops[k]? = some o → loudOp o = true → Done (listed.setIfInBounds i true) k) ∧ Rel P m' (H p') w' ∧ Sim m0 h0 w0 m' (H p') w' := fun {m' w'} hip hn2 hR hS hmade => by
    have hps : p < ops.size := hip ▸ hlt
    refine advance R hnx hb0 hn2 (ops.size - (p + 1)) (p + 1) (by omega) hR hS hmade (fun k q hk hq hlq => ?_) (fun k q hk hq hlq hd => ?_)
    · by_cases e : k = p
      · exact (hD k).2 (.inl (e.trans hip.symm))
      · exact (hD k).2 (.inr (I.pall k q (by omega) hq hlq))
    · rcases (hD k).1 hd with e | hd
      · omega
      · exact hbehind k q (by omega) hq hlq hd
  obtain ⟨hp,hs⟩ := R.step i o (Nat.zero_le _) ho
  unfold wpOp
  rw [ho]
  simp only []
  rw [hw]
  rcases hs with ⟨hwant,hv,e1⟩ | ⟨hwant,hkind,hv,e1,hload⟩ | ⟨hwant,hkind,⟨B,hv,e1⟩,hin⟩ | ⟨hwant,hkind,h1,hv,e1,hin⟩
  ·
    rw [hwant]
    simp only [Bool.false_eq_true,if_false]
    cases hl : loudOp o with
    | false =>
      obtain ⟨s1,s2⟩ := same_p hl
      exact ⟨m,p,dinv_put R sh I hi ho (fun _ _ h => h) (by rw [hv]; exact .undef m) I.ple s1 s2 I.rel I.sim (fun j hj hpj => by
        rcases (hD j).1 hj with e | hj
        · subst e
          intro q v B hq _ hwq _
          rw [ho] at hq; cases hq
          rw [hwant] at hwq; cases hwq
        · exact I.n1 j hj hpj) n2'⟩
    | true =>
      have hip := hploud hl
      rw [hip] at e1
      have hmade : ∀ j,Done (listed.setIfInBounds i true) j → p + 1 ≤ j → Made P ops base T m w j := fun j hj hpj => by
        rcases (hD j).1 hj with e | hj
        · omega
        · exact I.n1 j hj (by omega)
      obtain ⟨p',q1,q2,q3,q4,q5,q6⟩ := on_from hip n2' (by rw [e1]; exact I.rel) (by rw [e1]; exact I.sim) hmade
      exact ⟨m,p',dinv_put R sh I hi ho (fun _ _ h => h) (by rw [hv]; exact .undef m) q2 q3 q4 q5 q6 (fun j hj hpj => hmade j hj (by omega)) n2'⟩
  ·
    rw [hwant]
    simp only [if_true]
    have hl : loudOp o = false := by unfold loudOp; rw [hkind]; rfl
    obtain ⟨s1,s2⟩ := same_p hl
    have hlb : loadBlock P o (tsS ops listed V (T 0) ops.size) = loadBlock P o (T i) := by
      unfold loadBlock
      split
      · rename_i t x hop
        rw [← he x (by rw [hop]; simp [Op.operands])]
      · rename_i s d x hop
        rw [← he x (by rw [hop]; simp [Op.operands])]
      · rfl
    have turnd : ∀ b,(∀ q oq lw,ops[q]? = some oq → loudOp oq = true → (q,lw) ∈ RL → spares b lw = true ∨ Reach ops i q ∨ Reach ops q i) → b < (H 0).next →
        (∀ k,k ≤ i → (∀ q,k ≤ q → q < i → b ≠ base + q) → p ≤ k → (H i).get b = (H k).get b) ∧ (i ≤ p → (∀ q,i ≤ q → q < p → b ≠ base + q) → (H p).get b = (H i).get b) := by
      intro b hst hb1
      refine ⟨fun k hki hne hpk => ?_,fun hip hne => ?_⟩
      · refine rec_get hc R b hb1 k i hki (by omega) (fun q oq h1 h2 hoq hlq lw hlw => ?_) hne
        rcases hst q oq lw hoq hlq hlw with h3 | h3 | h3
        · exact h3
        · have := h3.lt sh.lt; omega
        · rcases Nat.lt_or_ge p q with h4 | h4
          · exact absurd (hreach q h3) (hbehind q oq h4 hoq hlq)
          · obtain rfl : q = p := by omega
            exact absurd (hreach q h3) (I.pnot oq hoq).2
      · refine rec_get hc R b hb1 i p hip I.ple (fun q oq h1 h2 hoq hlq lw hlw => ?_) hne
        rcases hst q oq lw hoq hlq hlw with h3 | h3 | h3
        · exact h3
        · exact absurd h3 (hnaft q (I.pall q oq h2 hoq hlq))
        · have := h3.lt sh.lt
          omega
    have hq : ∃ hX,Rel P m hX w ∧ aq P o.op (tsS ops listed V (T 0) ops.size) hX = some (V i) := by
      have same : (∀ b,loadBlock P o (T i) = some b → (H i).get b = (H p).get b) → ∃ hX,Rel P m hX w ∧ aq P o.op (tsS ops listed V (T 0) ops.size) hX = some (V i) := fun hsame => by
        refine ⟨H p,I.rel, ?_⟩
        rw [← hv,aq_congr (H i) he]
        refine aq_heap (fun b hb => ?_)
        rw [hlb] at hb
        exact (hsame b hb).symm
      cases hlbb : loadBlock P o (T i) with
      | none => exact same (fun b hb => by rw [hlbb] at hb; cases hb)
      | some b =>
        have old : b < base → (∀ q oq lw,ops[q]? = some oq → loudOp oq = true → (q,lw) ∈ RL → spares b lw = true ∨ Reach ops i q ∨ Reach ops q i) → ∃ hX,Rel P m hX w ∧ aq P o.op (tsS ops listed V (T 0) ops.size) hX = some (V i) := fun hbb hst => by
          have hb1 : b < (H 0).next := by have := hnx 0 (Nat.zero_le _); omega
          obtain ⟨t1,t2⟩ := turnd b hst hb1
          refine same (fun b' hb' => ?_)
          rw [hlbb] at hb'; cases hb'
          rcases Nat.le_total p i with hpi | hip
          · exact t1 p hpi (fun q _ _ => by omega) (Nat.le_refl _)
          · exact (t2 hip (fun q _ _ => by omega)).symm
        rcases hload b hlbb with ⟨hbb,hbin⟩ | hfree
        · exact old hbb (fun q oq lw hoq hlq hlw => st i b q lw hbin hlw)
        · obtain ⟨hsrc,hord⟩ := freeRd_split hfree
          have hst : ∀ q oq lw,ops[q]? = some oq → loudOp oq = true → (q,lw) ∈ RL → spares b lw = true ∨ Reach ops i q ∨ Reach ops q i := fun q oq lw hoq hlq _ => .inr (hord q oq hoq hlq)
          rcases hsrc with ⟨ty,t,hop,hold⟩ | ⟨sr,ds,t,hop,hmd⟩
          ·
            refine old (old_blk R sh hT0 30 i t (by omega) hold b ?_) hst
            unfold loadBlock at hlbb
            rw [hop] at hlbb
            simp only [ev_tget] at hlbb
            split at hlbb
            · rename_i a0 h5
              rw [Option.some.inj h5]; exact hlbb
            · cases hlbb
          ·
            obtain ⟨j,oj,hji,hoj,hdj,hkj,hwj,Bj,hvj⟩ := made_blk R sh (by omega) hmd (b := b) (by
              unfold loadBlock at hlbb
              rw [hop] at hlbb
              simp only [ev_tget] at hlbb
              split at hlbb
              · rename_i a0 n c h5
                split at hlbb
                · cases hlbb
                · rw [Option.some.inj h5]
                  unfold blkIn
                  rename_i hn
                  simp only [hn]
                  exact hlbb
              · cases hlbb)
            obtain ⟨rfl,hvj,hHj⟩ := hvj
            have hjs : j < ops.size := (Array.getElem?_eq_some_iff.1 hoj).1
            have hb1 : base + j < (H 0).next := by have := hnx 0 (Nat.zero_le _); omega
            obtain ⟨t1,t2⟩ := turnd (base + j) hst hb1
            have hrj : Reach ops j i := by
              have htl : t ∈ o.looksAt ops := by
                unfold Oper.looksAt
                exact List.mem_append_left _ (List.mem_filterMap.2 ⟨.tmp t,by rw [hop]; simp [Op.operands],rfl⟩)
              rcases sh.looks j i oj o t hoj ho hdj htl with e | ⟨_,hr⟩ | ⟨hl',_⟩
              · omega
              · exact hr
              · omega
            rcases Nat.le_total i p with hip | hpi
            · refine same (fun b' hb' => ?_)
              rw [hlbb] at hb'; cases hb'
              exact (t2 hip (fun q h1 _ => by omega)).symm
            · rcases Nat.lt_or_ge j p with hjp | hpj
              · refine same (fun b' hb' => ?_)
                rw [hlbb] at hb'; cases hb'
                exact t1 p hpi (fun q h1 _ => by omega) (Nat.le_refl _)
              · obtain ⟨L,m1,m2,m3⟩ := I.n1 j (hreach j hrj) hpj oj (V j) Bj hoj hkj hwj hvj
                refine ⟨{ H p with m := (H p).m.set (base + j) (some Bj) },rel_fill I.rel (by have := hnx p I.ple; omega) (.inr ⟨L,m1,m2,m3⟩), ?_⟩
                rw [← hv,aq_congr (H i) he]
                refine aq_heap (fun b' hb' => ?_)
                rw [hlb,hlbb] at hb'; cases hb'
                rw [t1 (j + 1) (by omega) (fun q h1 _ => by omega) (by omega),hHj]
                have e1 := AHeap.get_put (H p) (base + j) (base + j) (some Bj)
                have e2 := AHeap.get_put (H j) (base + j) (base + j) (some Bj)
                rw [if_pos rfl] at e1 e2
                exact e1.trans e2.symm
    obtain ⟨hX,hRX,hq⟩ := hq
    obtain ⟨v',r1,r2⟩ := aq_rel hRX hT o hq
    refine .inl (upon_value r1 ⟨m,p,dinv_put R sh I hi ho (fun _ _ h => h) r2 I.ple s1 s2 I.rel I.sim (fun j hj hpj => ?_) n2'⟩)
    rcases (hD j).1 hj with e | hj
    · subst e
      intro q v B hq' hk' _ _
      rw [ho] at hq'; cases hq'
      rw [hkind] at hk'; cases hk'
    · exact I.n1 j hj hpj
  ·
    rw [hwant]
    simp only [if_true]
    have hl : loudOp o = false := by unfold loudOp; rw [hkind]; rfl
    obtain ⟨s1,s2⟩ := same_p hl
    have hf := I.n2 i hlt hnd
    have hv' : anew P o.op (tsS ops listed V (T 0) ops.size) (base + i) = some (V i,B) := by rw [← hv,anew_congr _ he]
    obtain ⟨v',C,e,r1,r2,r3,r4,r5⟩ := anew_rel I.rel hT o hf hv'
    have hext := upd_ext (L := ⟨w.heap.size,0,0⟩) hf
    have hid : base + i < (H p).next := by have := hnx p I.ple; omega
    have hb1 : base + i < (H 0).next := by have := hnx 0 (Nat.zero_le _); omega
    have h00 : (H 0).get (base + i) = none := by
      rw [hH0]
      exact hR0.wf _ (by omega)
    have hlive : ∀ B',(H p).get (base + i) = some B' → B' = B := fun B' hB' => by
      rcases Nat.lt_or_ge i p with hip | hpi
      · have hself : (H (i + 1)).get (base + i) = some B := by
          rw [e1]
          have := AHeap.get_put (H i) (base + i) (base + i) (some B)
          rw [if_pos rfl] at this
          exact this
        rw [rec_get hc R (base + i) hb1 (i + 1) p hip I.ple (fun q oq h1 h2 hoq hlq lw hlw => by
          rcases st i (base + i) q lw hin hlw with h3 | h3 | h3
          · exact h3
          · exact absurd h3 (hnaft q (I.pall q oq h2 hoq hlq))
          · have := h3.lt sh.lt
            omega) (fun q _ _ => by omega),hself] at hB'
        exact (Option.some.inj hB').symm
      · rw [rec_dead hc R i hb1 h00 p hpi I.ple] at hB'; cases hB'
    have hit0 : (H 0).getIt (base + i) = none := by
      rw [hH0]
      exact hR0.its.wf _ (by omega)
    have hit : (H p).getIt (base + i) = none := rec_it hc R (base + i) hb1 hit0 p I.ple
    obtain ⟨g1,g2⟩ := rel_newid (e := e) I.rel hf hid hlive hit r3 r5
    have g3 := sim_newid (o := .cells C e) I.sim hf (by omega : h0.next ≤ base + i)
    have hnew : ∀ b,b ≠ base + i → upd m (base + i) ⟨w.heap.size,0,0⟩ b = m b := fun b hb => by unfold upd; rw [if_neg hb]
    refine .inl (upon_value r1 ⟨_,p,dinv_put R sh I hi ho hext r2 I.ple s1 s2 g1 g3 (fun j hj hpj => ?_) (fun j hj hd => ?_)⟩)
    · rcases (hD j).1 hj with e' | hj
      · subst e'
        intro q v2 B2 hq' hk' hw' hv2
        rw [ho] at hq'; cases hq'
        rw [hv] at hv2; cases hv2
        refine ⟨_,by simp [upd],g2,fun a' L' ha' hL' => ?_⟩
        by_cases ee : a' = base + j
        · exact ee
        · rw [hnew a' ee] at ha'
          have := I.rel.lt a' L' ha'
          simp at hL'; omega
      · have hji : j ≠ i := fun ee => hnd (ee ▸ hj)
        intro q v2 B2 hq' hk' hw' hv2
        obtain ⟨L,l1,l2,l3⟩ := I.n1 j hj hpj q v2 B2 hq' hk' hw' hv2
        have hLlt := I.rel.lt _ _ l1
        refine ⟨L,hext _ _ l1,(l2.mono hext).same (heap_alloc_lt w _ _ hLlt),fun a' L' ha' hL' => ?_⟩
        by_cases ee : a' = base + i
        · subst ee
          simp only [upd,if_true] at ha'
          cases ha'
          simp at hL'; omega
        · rw [hnew a' ee] at ha'
          exact l3 a' L' ha' hL'
    · rw [hnew _ (fun ee => hd ((hD j).2 (.inl (by omega))))]
      exact n2' j hj hd
  ·
    rw [hwant]
    simp only [if_true]
    have hl : loudOp o = true := by unfold loudOp; exact Nat.ble_eq_true_of_le hkind
    have hip := hploud hl
    subst hip
    rw [aoper_congr _ he] at hv
    have h00 : ∀ j,j < ops.size → (H 0).get (base + j) = none := fun j _ => by
      rw [hH0]
      exact hR0.wf _ (by omega)
    have hb1 : ∀ j,j < ops.size → base + j < (H 0).next := fun j hj => by have := hnx 0 (Nat.zero_le _); omega
    refine .inl (aoper_wp hcall (I.rel.relow (H i).next) hT o hv fun m' v' w' r1 r2 r3 => ?_)
    have r3' := r3.relow
    have hRn : Rel P m' (H (i + 1)) w' := by rw [e1]; exact r2.relow _
    have hSn : Sim m0 h0 w0 m' (H (i + 1)) w' := by rw [e1]; exact I.sim.trans hR0 r3'
    have hn2 : ∀ j,j < ops.size → ¬ Done (listed.setIfInBounds i true) j → m' (base + j) = none := fun j hj hd => by
      rw [r3'.newm (base + j) (by have := hnx i (by omega); omega)]
      exact n2' j hj hd
    have hmade : ∀ j,Done (listed.setIfInBounds i true) j → i + 1 ≤ j → Made P ops base T m' w' j := fun j hj hpj => by
      rcases (hD j).1 hj with e' | hj
      · omega
      · intro q v2 B2 hq' hk' hw' hv2
        have hjs := (Array.getElem?_eq_some_iff.1 hq').1
        obtain ⟨L,l1,l2,l3⟩ := I.n1 j hj (by omega) q v2 B2 hq' hk' hw' hv2
        have hdead := rec_dead hc R j (hb1 j hjs) (h00 j hjs) i (by omega) (by omega)
        have hLlt := I.rel.lt _ _ l1
        refine ⟨L,r3'.ext _ _ l1,(l2.mono r3'.ext).same (r3'.frame L.b hLlt (fun a' B' L' g1 _ g3 _ g5 => ?_) (fun a' x L' g1 g3 _ g5 => by
          obtain ⟨C,e,fr,c1,_⟩ := l2
          have := (I.rel.its.at_ a' x L' g1 g3).1
          rw [g5,c1] at this
          exact x.no_cells (Option.some.inj this).symm)),fun a' L' ha' hL' => ?_⟩
        · have := l3 a' L' g3 g5
          subst this
          rw [hdead] at g1; cases g1
        · rcases r3'.img a' L' ha' with g | g | ⟨a0,B0,L0,g1,_,g3,g4,_⟩
          · exact l3 a' L' g hL'
          · omega
          · have := l3 a0 L0 g3 (g4.trans hL')
            subst this
            rw [hdead] at g1; cases g1
    obtain ⟨p',q1,q2,q3,q4,q5,q6⟩ := on_from rfl hn2 hRn hSn hmade
    exact ⟨m',p',dinv_put R sh I hi ho r3'.ext r1 q2 q3 q4 q5 q6 (fun j hj hpj => hmade j hj (by omega)) hn2⟩
end inv
theorem aregD_wp (hmix : P.follows .mixedOrders = true) {call : CallF} (hc : CallExt call) (hcall : CallOK P call) {id nt : Nat} {ops : Array Oper} {ts ts' : Tr Value} {h h' : AHeap} (hq : aregD P call nt ops ts h = some (ts',h'))
    {m : BMap} {w : World} {a : Act} {Q : Exit → Act → World → Prop} (hR : Rel P m h w) (hT : TRel m nt ts a)
    (hQ : ∀ m' w' a',Rel P m' h' w' → TRel m' nt ts' a' → Sim m h w m' h' w' → Q .normal a' w') : (Code.region id ops true).wp P Q a w := by
  unfold aregD at hq
  split at hq
  · rename_i hok
    have sh := shown_of hok
    split at hq
    · rename_i ts1 h1 RQ RL hd
      split at hq
      · rename_i hst
        cases hq
        have st := stable_of hst
        obtain ⟨T,H,V,R⟩ := aopsD_rec (ops := ops) (l := ops.toList) (k := 0) (by simp) (by simp) hd
        have hnx : ∀ k,k ≤ ops.size → h.next + ops.size ≤ (H k).next := fun k hk => by
          have h1 := rec_next hc R 0 k (Nat.zero_le _) hk
          rw [R.h0] at h1
          exact h1
        have hRd : Rel P m h w.drew := ⟨hR.lt,hR.fresh,hR.blk,hR.inj,hR.glob,hR.wf,⟨hR.its.at_,hR.its.inj,hR.its.wf⟩⟩
        have hSd : Sim m h w.drew m h w.drew := Sim.refl _ _ _
        have hSd0 : Sim m h w m h w.drew := ⟨fun _ _ h => h,rfl,rfl,rfl,Nat.le_refl _,fun _ _ _ _ => rfl,fun _ _ h => .inl h,Nat.le_refl _,Nat.le_refl _,fun _ _ => rfl,fun _ _ _ => rfl,fun _ _ h => h,fun _ B' _ h => ⟨B',h,rfl⟩,fun _ _ h => h⟩
        have hR0 : Rel P m (H 0) w.drew := by
          rw [R.h0]
          exact ⟨hR.lt,fun a ha => hR.fresh a (Nat.le_trans (Nat.le_add_right _ _) ha),hR.blk,hR.inj,hR.glob,fun a ha => hR.wf a (Nat.le_trans (Nat.le_add_right _ _) ha),⟨hR.its.at_,hR.its.inj,fun a ha => hR.its.wf a (Nat.le_trans (Nat.le_add_right _ _) ha)⟩⟩
        have hS0 : Sim m h w.drew m (H 0) w.drew := by
          rw [R.h0]
          exact ⟨fun _ _ h => h,rfl,rfl,rfl,Nat.le_refl _,fun _ _ _ _ => rfl,fun _ _ h => .inl h,Nat.le_refl _,Nat.le_add_right _ _,fun _ _ => rfl,fun _ _ _ => rfl,fun _ _ h => h,fun _ B' _ h => ⟨B',h,rfl⟩,fun _ _ h => h⟩
        have hno : ∀ k,¬ Done (Array.replicate ops.size false) k := fun k => by
          unfold Done
          simp only [Array.getD_eq_getD_getElem?]
          rw [Array.getElem?_replicate]
          split <;> simp
        have hn2 : ∀ j,j < ops.size → ¬ Done (Array.replicate ops.size false) j → m (h.next + j) = none := fun j _ _ => hR.fresh _ (Nat.le_add_right _ _)
        obtain ⟨p,_,p2,p3,p4,p5,p6⟩ := advance R hnx rfl hn2 ops.size 0 (by omega) hR0 hS0 (fun j hj => absurd hj (hno j)) (fun i o hi => absurd hi (Nat.not_lt_zero _)) (fun i o _ _ _ => hno i)
        have I0 : DInv P nt h.next ops T H V m h w.drew m p (Array.replicate ops.size false) a w.drew :=
          ⟨by simp,hT.size,hT.defers,fun j o hj => absurd hj (hno j),fun i o d hi => absurd hi (hno i),fun t _ => by rw [R.t0]; exact hT.val t,p2,p3,p4,p5,p6,fun j hj => absurd hj (hno j),hn2⟩
        have hstep : ∀ (listed : Array Bool) (a : Act) (w1 : World),(listed.size = ops.size ∧ ∃ m' p',DInv P nt h.next ops T H V m h w.drew m' p' listed a w1) → ∀ i ∈ Region.ready .any ops listed,
            wpOp P ops Q i (fun a' w' => (listed.setIfInBounds i true).size = ops.size ∧ ∃ m' p',DInv P nt h.next ops T H V m h w.drew m' p' (listed.setIfInBounds i true) a' w') a w1 := fun listed a w1 ⟨hs,m1,p1,I⟩ i hi =>
          wpOp_mono (fun a' w' ⟨m',p',I'⟩ => ⟨by simpa using hs,m',p',I'⟩) (dinv_step hc hcall R sh st hRd rfl (fun t b hb => by rw [R.t0] at hb; exact blkIn_lt hR (hT.val t) hb) R.h0 I hi)
        have hend : ∀ (listed : Array Bool) (a : Act) (w1 : World),(listed.size = ops.size ∧ ∃ m' p',DInv P nt h.next ops T H V m h w.drew m' p' listed a w1) → Region.ready .any ops listed = [] → Q .normal a w1 := by
          rintro listed a w1 ⟨hs,m1,p1,I⟩ hr
          have hall : ∀ k,k < ops.size → Done listed k := by
            intro k
            induction k using Nat.strongRecOn with
            | _ k ih =>
              intro hk
              have hok : ops[k]? = some ops[k] := by simp [hk]
              have hks : k < listed.size := by rw [hs]; exact hk
              rcases hb : listed[k] with _ | _
              · have : k ∈ Region.ready .any ops listed := mem_ready.2 ⟨by simp [Array.getD,hks,hb],ops[k],hok,fun e he hb => ih e.on (sh.lt k _ hok e he hb) (Nat.lt_trans (sh.lt k _ hok e he hb) hk)⟩
                rw [hr] at this; cases this
              · unfold Done; simp [Array.getD,hks,hb]
          have hp : p1 = ops.size := by
            rcases Nat.lt_or_ge p1 ops.size with h' | h'
            · exact absurd (hall p1 h') (I.pnot ops[p1] (by simp [h'])).2
            · exact Nat.le_antisymm I.ple h'
          subst hp
          refine hQ m1 w1 a (by rw [← R.h1]; exact I.rel) ⟨I.asz,I.adf,fun t => ?_⟩ (by rw [← R.h1]; exact hSd0.trans hR I.sim)
          rw [← R.t1]
          obtain ⟨r1,r2⟩ := rec_tget R sh t ops.size (Nat.le_refl _)
          by_cases hex : ∃ (j : Nat) (q : Oper),ops[j]? = some q ∧ q.dst = some t
          · obtain ⟨j,q,e1,e2⟩ := hex
            have hj := (Array.getElem?_eq_some_iff.1 e1).1
            rw [r1 j q hj e1 e2]
            exact I.t1 j q t (hall j hj) e1 e2
          · rw [r2 (fun j q _ hq hd => hex ⟨j,q,hq,hd⟩)]
            exact I.t2 t (fun j q _ hq hd => hex ⟨j,q,hq,hd⟩)
        exact wp_region_any hmix (wpAny_inv (fun listed a w' => listed.size = ops.size ∧ ∃ m' p',DInv P nt h.next ops T H V m h w.drew m' p' listed a w') hstep hend ops.size (Array.replicate ops.size false) a w.drew (by simp) (by simp) ⟨by simp,m,p,I0⟩)
      · cases hq
    · cases hq
  · cases hq
end
end Go.Abs
namespace Go.Abs
section
variable {P : Program}
def exitOf : AExit → Exit
  | .normal => .normal
  | .exit id => .exit id
  | .ret => .ret
def CodeOK (P : Program) (code : CodeF) : Prop := ∀ c nt ts h x ts' h',code c nt ts h = some (x,ts',h') → ∀ m w a (Q : Exit → Act → World → Prop),Rel P m h w → TRel m nt ts a →
  (∀ m' w' a',Rel P m' h' w' → TRel m' nt ts' a' → Sim m h w m' h' w' → Q (exitOf x) a' w') → c.wp P Q a w
theorem tget_initF : ∀ (l : List Value) (k : Nat) (t : Tr Value) (j : Nat),tget (initF k l t) j = if k ≤ j ∧ j < k + l.length then l.getD (j - k) undef else tget t j
  | [],k,t,j => by
    rw [if_neg (by simp only [List.length_nil]; omega)]; rfl
  | v :: l,k,t,j => by
    rw [initF,tget_initF l (k + 1) _ j,tget_set]
    simp only [List.length_cons]
    by_cases e : j = k
    · subst e
      rw [if_neg (by omega),if_pos rfl,if_pos (by omega)]; simp
    · by_cases e2 : k + 1 ≤ j ∧ j < k + 1 + l.length
      · rw [if_pos e2,if_pos (by omega),show j - k = (j - (k + 1)) + 1 by omega]; simp
      · rw [if_neg e2,if_neg e,if_neg (by omega)]
def resOne (tmps : Array Value) : ResultVar → Sem Value
  | .tmp t => pure (tmps.getD t undef)
  | .cell a t => do loadVar t (← asAddr (tmps.getD a undef))
theorem resOne_rel {m : BMap} {h : AHeap} {w : World} {nt : Nat} {ts : Tr Value} {a : Act} (hR : Rel P m h w) (hT : TRel m nt ts a) {r : ResultVar} {v : Value} (hv : (match r with
      | .tmp t => ev P ts (.tmp t)
      | .cell a t => match ev P ts (.tmp a) with
        | some v => aload P t v h
        | none => none) = some v) : ∃ v',(resOne a.tmps r).run P w = .ok v' w ∧ VRel m v v' := by
  cases r with
  | tmp t => exact ⟨a.eval (.tmp t),rfl,ev_rel hT hR.glob hv⟩
  | cell p t =>
    simp only at hv
    split at hv
    · rename_i pv hpv
      have hr := ev_rel hT hR.glob hpv
      obtain ⟨v',l1,l2⟩ := aload_rel hR hr hv
      refine ⟨v', ?_,l2⟩
      unfold aload at hv
      split at hv
      · rename_i ad
        obtain ⟨L,hm,hs,he⟩ := hr.inv_ptr
        have he' : a.tmps.getD p undef = .pointer (some ⟨L.b,L.base + ad.off,none⟩) := he
        rw [he] at l1
        have l1' : (loadVar t ⟨L.b,L.base + ad.off,none⟩).run P w = .ok v' w := by
          simpa [Instr.loadAt,Instr.sureAddr] using l1
        show (do loadVar t (← asAddr (a.tmps.getD p undef)) : Sem Value).run P w = _
        rw [he']
        simp only [Sem.run_bind,asAddr,Sem.run_pure,Result.andThen_ok,l1']
      · cases hv
    · cases hv
theorem ares_rel {m : BMap} {h : AHeap} {w : World} {nt : Nat} {ts : Tr Value} {a : Act} (hR : Rel P m h w) (hT : TRel m nt ts a) : ∀ {l : List ResultVar} {vs : List Value},ares P ts h l = some vs →
    ∃ vs',(l.mapM (resOne a.tmps)).run P w = .ok vs' w ∧ LRel m vs vs'
  | [],vs,hq => by cases hq; exact ⟨[],by simp,LRel.nil m⟩
  | r :: l,vs,hq => by
    simp only [ares] at hq
    split at hq
    · rename_i v hv
      split at hq
      · rename_i us hus
        cases hq
        obtain ⟨vs',h1,h2⟩ := ares_rel hR hT hus
        obtain ⟨v',l1,l2⟩ := resOne_rel hR hT hv
        refine ⟨v' :: vs', ?_,LRel.cons l2 h2⟩
        rw [List.mapM_cons]
        simp only [Sem.run_bind,l1,h1,Sem.run_pure,Result.andThen_ok]
      · cases hq
    · cases hq
theorem packed_rel {m : BMap} {l l' : List Value} (h : LRel m l l') : VRel m (packed l) (if hh : l'.toArray.size = 1 then l'.toArray[0] else .tuple l'.toArray) := by
  rcases h.ind with ⟨rfl,rfl⟩ | ⟨v,v',r,r',rfl,rfl,hv,hr⟩
  · exact VRel.tuple_of (LRel.nil m)
  · rcases hr.ind with ⟨rfl,rfl⟩ | ⟨u,u',q,q',rfl,rfl,hu,hq⟩
    · exact hv
    · have := VRel.tuple_of (LRel.cons hv (LRel.cons hu hq))
      simpa [packed] using this
theorem results_rel {m : BMap} {h : AHeap} {w : World} {nt : Nat} {ts : Tr Value} {a : Act} {fn : Func} (hR : Rel P m h w) (hT : TRel m nt ts a) {vs : List Value} (hq : ares P ts h fn.results.toList = some vs) :
    ∃ v',(results fn a.tmps).run P w = .ok v' w ∧ VRel m (packed vs) v' := by
  obtain ⟨vs',h1,h2⟩ := ares_rel hR hT hq
  refine ⟨_, ?_,packed_rel h2⟩
  have hres : results fn a.tmps = (do
      let vs ← fn.results.mapM (resOne a.tmps)
      pure (if h : vs.size = 1 then vs[0] else .tuple vs)) := rfl
  rw [hres,Array.mapM_eq_mapM_toList]
  simp only [Sem.run_bind,Sem.run_map,h1,Result.andThen_ok,Sem.run_pure]
theorem acall_ok {O : CallF} (hO : CallOK P O) {code : CodeF} (hc : CodeOK P code) : CallOK P (acall P O code) := by
  intro f args h v h' hq
  unfold acall at hq
  split at hq
  · rename_i hk; cases hq; exact hO _ _ _ _ _ hk
  split at hq
  · rename_i fn c hb
    refine ⟨by rw [hb]; rfl,fun m w args' hR hA => ?_⟩
    split at hq
    · rename_i hle
      have hle' := Nat.le_of_ble_eq_true hle
      have hf : P.funcs[f]? = some fn ∧ fn.body = some c := by
        unfold bodyOf at hb
        split at hb
        · rename_i fn' hfn
          split at hb
          · rename_i c' hbody _
            cases hb
            exact ⟨hfn,hbody⟩
          · cases hb
        · cases hb
      have hlen : args.length = args'.length := hA.1
      have hT0 : TRel m fn.ntmps (initF 0 args .nil) { tmps := args'.toArray ++ Array.replicate (fn.ntmps - args'.toArray.size) undef,defers := [] } := by
        refine ⟨by simp; omega,rfl,fun t => ?_⟩
        rw [tget_initF]
        simp only [Nat.zero_le,true_and,Nat.zero_add,Nat.sub_zero]
        by_cases ht : t < args.length
        · rw [if_pos ht]
          have h1 : t < args'.length := hlen ▸ ht
          have := hA.2 t ht
          simp only [Array.getD_eq_getD_getElem?]
          rw [Array.getElem?_append_left (by simpa using h1)]
          simpa [List.getD_eq_getElem?_getD] using this
        · rw [if_neg ht]
          have ht' : args'.length ≤ t := hlen ▸ Nat.not_lt.1 ht
          have : (args'.toArray ++ Array.replicate (fn.ntmps - args'.toArray.size) undef).getD t undef = undef := by
            simp only [Array.getD_eq_getD_getElem?]
            rw [Array.getElem?_append_right (by simpa using ht')]
            rw [Array.getElem?_replicate]
            split <;> rfl
          rw [this]
          exact .undef m
      refine calls_of_wp hf.1 hf.2 ?_
      split at hq
      · rename_i ts' h1 hcode
        split at hq
        · rename_i vs hvs
          cases hq
          refine hc _ _ _ _ _ _ _ hcode m w _ _ hR hT0 (fun m' w' a' r1 r2 r3 => ?_)
          obtain ⟨v',e1,e2⟩ := results_rel r1 r2 hvs
          exact ⟨r2.defers,v',e1,m',v',rfl,e2,r1,r3⟩
        · cases hq
      · rename_i ts' h1 hcode
        split at hq
        · rename_i vs hvs
          cases hq
          refine hc _ _ _ _ _ _ _ hcode m w _ _ hR hT0 (fun m' w' a' r1 r2 r3 => ?_)
          obtain ⟨v',e1,e2⟩ := results_rel r1 r2 hvs
          exact ⟨r2.defers,v',e1,m',v',rfl,e2,r1,r3⟩
        · cases hq
      · cases hq
    · cases hq
  · cases hq
theorem aloop_ok {code : CodeF} (hc : CodeOK P code) {b : Code} {nt : Nat} : ∀ (n : Nat) {ts ts' : Tr Value} {h h' : AHeap} {x : AExit},aloop code b nt n ts h = some (x,ts',h') → ∀ {m : BMap} {w : World} {a : Act} {Q : Exit → Act → World → Prop},Rel P m h w → TRel m nt ts a →
    (∀ m' w' a',Rel P m' h' w' → TRel m' nt ts' a' → Sim m h w m' h' w' → Q (exitOf x) a' w') → Code.rounds P b Q n a w
  | 0,ts,ts',h,h',x,hq,m,w,a,Q,hR,hT,hQ => by cases hq
  | n + 1,ts,ts',h,h',x,hq,m,w,a,Q,hR,hT,hQ => by
    rw [rounds_succ]
    unfold aloop at hq
    split at hq
    · rename_i ts1 h1 h1eq
      refine hc _ _ _ _ _ _ _ h1eq m w a _ hR hT (fun m' w' a' r1 r2 r3 => ?_)
      exact aloop_ok hc n hq r1 r2 (fun m2 w2 a2 q1 q2 q3 => hQ m2 w2 a2 q1 q2 (r3.trans hR q3))
    · rename_i r hno
      cases hcode : code b nt ts h with
      | none => rw [hcode] at hq; cases hq
      | some y =>
        rw [hcode] at hq
        cases hq
        refine hc _ _ _ _ _ _ _ hcode m w a _ hR hT (fun m' w' a' r1 r2 r3 => ?_)
        cases x with
        | normal => exact (hno _ _ hcode).elim
        | exit id => exact hQ m' w' a' r1 r2 r3
        | ret => exact hQ m' w' a' r1 r2 r3
theorem astep_ok (hmix : P.follows .mixedOrders = true) {O : CallF} (hOe : CallExt O) (hO : CallOK P O) {code : CodeF} (hce : CodeExt code) (hc : CodeOK P code) (n : Nat) : CodeOK P (astep P O n code) := by
  intro c nt ts h x ts' h' hq m w a Q hR hT hQ
  have hcall := acall_ok hO hc
  cases c with
  | skip => cases hq; exact wp_skip (hQ m w a hR hT (Sim.refl _ _ _))
  | label l => cases hq; exact wp_label (hQ m w a hR hT (Sim.refl _ _ _))
  | exit id => cases hq; exact wp_exit (hQ m w a hR hT (Sim.refl _ _ _))
  | ret => cases hq; exact wp_ret (hQ m w a hR hT (Sim.refl _ _ _))
  | region id ops draw =>
    cases draw with
    | false =>
      simp only [astep] at hq
      split at hq
      · rename_i ts1 h1 hr
        cases hq
        exact wp_region_list (aops_wp hcall ops _ hr hR hT hQ)
      · cases hq
    | true =>
      simp only [astep] at hq
      split at hq
      · rename_i ts1 h1 hr
        cases hq
        exact aregD_wp hmix (acall_ext hOe hce) hcall hr hR hT hQ
      · cases hq
  | seq c d =>
    simp only [astep] at hq
    refine wp_seq ?_
    split at hq
    · rename_i ts1 h1 h1eq
      refine hc _ _ _ _ _ _ _ h1eq m w a _ hR hT (fun m' w' a' r1 r2 r3 => ?_)
      exact hc _ _ _ _ _ _ _ hq m' w' a' Q r1 r2 (fun m2 w2 a2 q1 q2 q3 => hQ m2 w2 a2 q1 q2 (r3.trans hR q3))
    · rename_i r hno
      cases hcode : code c nt ts h with
      | none => rw [hcode] at hq; cases hq
      | some y =>
        rw [hcode] at hq
        cases hq
        refine hc _ _ _ _ _ _ _ hcode m w a _ hR hT (fun m' w' a' r1 r2 r3 => ?_)
        cases x with
        | normal => exact (hno _ _ hcode).elim
        | exit id => exact hQ m' w' a' r1 r2 r3
        | ret => exact hQ m' w' a' r1 r2 r3
  | cond c d e =>
    simp only [astep] at hq
    split at hq
    · rename_i hb
      exact wp_cond_true (ev_rel hT hR.glob hb).inv_bool (hc _ _ _ _ _ _ _ hq m w a Q hR hT hQ)
    · rename_i hb
      exact wp_cond_false (ev_rel hT hR.glob hb).inv_bool (hc _ _ _ _ _ _ _ hq m w a Q hR hT hQ)
    · cases hq
  | block id b =>
    simp only [astep] at hq
    refine wp_block ?_
    split at hq
    · rename_i j ts1 h1 h1eq
      refine hc _ _ _ _ _ _ _ h1eq m w a _ hR hT (fun m' w' a' r1 r2 r3 => ?_)
      show (if j = id then Q .normal a' w' else Q (.exit j) a' w')
      split at hq
      · rename_i hj
        cases hq
        rw [if_pos (Nat.eq_of_beq_eq_true hj)]
        exact hQ m' w' a' r1 r2 r3
      · rename_i hj
        cases hq
        rw [if_neg (Nat.ne_of_beq_eq_false hj)]
        exact hQ m' w' a' r1 r2 r3
    · rename_i r hno
      cases hcode : code b nt ts h with
      | none => rw [hcode] at hq; cases hq
      | some y =>
        rw [hcode] at hq
        cases hq
        refine hc _ _ _ _ _ _ _ hcode m w a _ hR hT (fun m' w' a' r1 r2 r3 => ?_)
        cases x with
        | normal => exact hQ m' w' a' r1 r2 r3
        | exit j => exact (hno _ _ _ hcode).elim
        | ret => exact hQ m' w' a' r1 r2 r3
  | loop b =>
    simp only [astep] at hq
    exact wp_loop_rounds n (aloop_ok hc n hq hR hT hQ)
  | _ => simp only [astep] at hq; cases hq
theorem acode_ok (hmix : P.follows .mixedOrders = true) {O : CallF} (hOe : CallExt O) (hO : CallOK P O) : ∀ n,CodeOK P (acode P O n)
  | 0 => fun _ _ _ _ _ _ _ hq => by cases hq
  | n + 1 => astep_ok hmix hOe hO (acode_ext hOe n) (acode_ok hmix hOe hO n) n
theorem sound_call (hmix : P.follows .mixedOrders = true) {O : CallF} (hOe : CallExt O) (hO : CallOK P O) (n : Nat) : CallOK P (run P O n) := acall_ok hO (acode_ok hmix hOe hO n)
theorem noO_ext : CallExt noO := fun _ _ _ _ _ h => by cases h
theorem noO_ok : CallOK P noO := fun _ _ _ _ _ h => by cases h
end
end Go.Abs
namespace Go.Abs
open Go.RowKit Go.WideShapes Go.ChangeShapes
def heapOf (l : List Blk) : AHeap := ⟨l.length,l.length,(l.zipIdx.foldl (fun t (b,i) => t.set i (some b)) .nil),.nil⟩
theorem foldl_get : ∀ (l : List Blk) (k : Nat) (t : Tr (Option Blk)) (a : Nat),
    (((l.zipIdx k).foldl (fun t (x : Blk × Nat) => t.set x.2 (some x.1)) t).get a) = if k ≤ a ∧ a < k + l.length then some (l[a - k]?) else t.get a
  | [],k,t,a => by
    rw [if_neg (by simp only [List.length_nil]; omega)]; rfl
  | b :: l,k,t,a => by
    rw [List.zipIdx_cons,List.foldl_cons,foldl_get l (k + 1) _ a,Tr.get_set]
    simp only [List.length_cons]
    by_cases e : a = k
    · subst e
      rw [if_neg (by omega),if_pos rfl,if_pos (by omega)]; simp
    · by_cases e2 : k + 1 ≤ a ∧ a < k + 1 + l.length
      · rw [if_pos e2,if_pos (by omega),show a - k = (a - (k + 1)) + 1 by omega]; simp
      · rw [if_neg e2,if_neg e,if_neg (by omega)]
theorem heapOf_get (l : List Blk) (a : Nat) : (heapOf l).get a = l[a]? := by
  have := foldl_get l 0 .nil a
  unfold AHeap.get heapOf
  simp only []
  rw [show (l.zipIdx.foldl (fun t (b,i) => t.set i (some b)) .nil : Tr (Option Blk)) = l.zipIdx.foldl (fun t (x : Blk × Nat) => t.set x.2 (some x.1)) .nil from rfl,this]
  by_cases h : a < l.length
  · rw [if_pos (by omega)]; simp
  · rw [if_neg (by omega),List.getElem?_eq_none (by omega)]; rfl
def mapOf (ls : List Loc) : BMap := fun a => ls[a]?
section
variable {P : Program} {W : World}
def Lies (W : World) (B : Blk) (L : Loc) : Prop :=
  B.wr = false ∧ B.unk = false ∧ L.b < W.heap.size ∧ (B.cells ≠ [] ∨ ∃ C e fr,W.heap[L.b]? = some (.cells C e fr) ∧ L.base ≤ C.size) ∧ ∀ k v,B.cells[k]? = some v → W.cell? ⟨L.b,L.base + k,none⟩ = some v ∧ plain v = true
theorem rel_init (l : List Blk) (ls : List Loc) (hlen : l.length = ls.length) (hl : ∀ (i : Nat) (B : Blk) (L : Loc),l[i]? = some B → ls[i]? = some L → Lies W B L)
    (hg : ∀ g,g < P.globals.size → ls[g]? = some ⟨g,0,0⟩) : Rel P (mapOf ls) (heapOf l) W := by
  have both : ∀ {a L},mapOf ls a = some L → ∃ B,l[a]? = some B := fun {a L} h => by
    have : a < ls.length := (List.getElem?_eq_some_iff.1 h).1
    exact ⟨l[a]'(by omega),by simp [hlen,this]⟩
  refine ⟨fun a L h => ?_,fun a ha => ?_,fun a B L hB hL => ?_,fun a a' B B' L L' hB hB' hL hL' _ _ => ?_,hg,fun a ha => ?_,⟨fun a x L hx => (by cases hx),fun a a' x x' L L' hx => (by cases hx),fun a _ => rfl⟩⟩
  · obtain ⟨B,hB⟩ := both h
    exact (hl a B L hB h).2.2.1
  · have ha' : l.length ≤ a := ha
    unfold mapOf
    rw [List.getElem?_eq_none (by omega)]
  · rw [heapOf_get] at hB
    obtain ⟨h1,h2,h3,h4,h5⟩ := hl a B L hB hL
    rcases Classical.em (B.cells = []) with hnil | hnil
    · obtain ⟨C,e,fr,hC,hle⟩ := h4.resolve_left (fun h => h hnil)
      exact ⟨C,e,fr,hC,(fun hw => by rw [h1] at hw; cases hw),by rw [hnil]; exact hle,(fun i hi => by rw [hnil] at hi; cases hi),(fun hu => by rw [h2] at hu; cases hu)⟩
    obtain ⟨v,r,hvr⟩ := List.exists_cons_of_ne_nil hnil
    have hc0 := (h5 0 v (by rw [hvr]; rfl)).1
    unfold World.cell? at hc0
    simp only [] at hc0
    split at hc0
    · rename_i C e fr hC
      have hcell : ∀ k u,B.cells[k]? = some u → C[L.base + k]? = some u := fun k u hk => by
        have := (h5 k u hk).1
        rwa [cell_of_row W L.b (L.base + k) C e fr hC] at this
      have hsz : L.base + B.cells.length ≤ C.size := by
        have hpos : 0 < B.cells.length := by rw [hvr]; simp
        have h6 := hcell (B.cells.length - 1) (B.cells[B.cells.length - 1]'(by omega)) (by simp)
        have h7 := (Array.getElem?_eq_some_iff.1 h6).1
        omega
      have hrel : ∀ i,i < B.cells.length → VRel (mapOf ls) (B.cells.getD i undef) (C.getD (L.base + i) undef) := fun i hi => by
        have hk : B.cells[i]? = some B.cells[i] := by simp [hi]
        have h6 := hcell i _ hk
        have h7 := (h5 i _ hk).2
        rw [List.getD_eq_getElem?_getD,hk,Array.getD_eq_getD_getElem?,h6]
        exact .plain _ h7
      exact ⟨C,e,fr,hC,(fun hw => by rw [h1] at hw; cases hw),hsz,hrel,(fun hu => by rw [h2] at hu; cases hu)⟩
    · cases hc0
  · rw [heapOf_get] at hB hB'
    exact ⟨(hl a B L hB hL).1,(hl a' B' L' hB' hL').1⟩
  · have ha' : l.length ≤ a := ha
    rw [heapOf_get,List.getElem?_eq_none (by omega)]
theorem Rel.below {m : BMap} {h : AHeap} {w w' : World} (hR : Rel P m h w) (hb : Below w.heap.size w w') : Rel P m h w' ∧ Sim m h w m h w' := by
  refine ⟨⟨fun a L hL => Nat.lt_of_lt_of_le (hR.lt a L hL) hb.size,hR.fresh,fun a B L hB hL => (hR.blk a B L hB hL).same (hb.block _ (hR.lt a L hL)),hR.inj,hR.glob,hR.wf,hR.its.keep rfl (Nat.le_refl _) (fun _ _ h _ => h) (fun r x hr => by rw [hb.block r (Array.getElem?_eq_some_iff.1 hr).1]; exact hr)⟩,
    ⟨fun _ _ h => h,hb.os,hb.output,hb.tape,hb.size,fun r hr _ _ => hb.block r hr,fun _ _ h => .inl h,Nat.le_refl _,Nat.le_refl _,fun _ _ => rfl,fun _ _ _ => rfl,fun _ _ h => h,fun _ B' _ h => ⟨B',h,rfl⟩,fun _ _ h => h⟩⟩
def bare (P : Program) : AHeap := ⟨P.globals.size,P.globals.size,.nil,.nil⟩
theorem bare_get (a : Nat) : (bare P).get a = none := by
  unfold bare AHeap.get
  rw [Tr.get_nil]
theorem bare_getIt (a : Nat) : (bare P).getIt a = none := by
  unfold bare AHeap.getIt
  rw [Tr.get_nil]
theorem rel_bare {m : BMap} {h : AHeap} {w : World} (hR : Rel P m h w) : Rel P (fun a => if a < P.globals.size then some ⟨a,0,0⟩ else none) (bare P) w where
  lt := fun a L hL => by
    split at hL
    · rename_i ha
      cases hL
      exact hR.lt a _ (hR.glob a ha)
    · cases hL
  fresh := fun a ha => if_neg (Nat.not_lt.2 ha)
  blk := fun a B L hB => by rw [bare_get] at hB; cases hB
  inj := fun a a' B B' L L' hB => by rw [bare_get] at hB; cases hB
  glob := fun g hg => if_pos hg
  wf := fun a _ => bare_get a
  its := ⟨(fun a x L hx => by rw [bare_getIt] at hx; cases hx),(fun a a' x x' L L' hx => by rw [bare_getIt] at hx; cases hx),fun a _ => bare_getIt a⟩
theorem bare_true (hmix : P.follows .mixedOrders = true) {n : Nat} {f : FuncId} {h' : AHeap} (hrun : run P noO n f [] (bare P) = some (.bool true,h')) :
    (bodyOf P f).isSome = true ∧ ∀ {m : BMap} {h : AHeap} {w : World},Rel P m h w → Calls P f #[] w fun e w' => e = .returned (.bool true) ∧ Below w.heap.size w w' := by
  obtain ⟨h1,hc⟩ := sound_call hmix noO_ext noO_ok n f [] (bare P) (.bool true) h' hrun
  refine ⟨h1,fun hR => (hc _ _ [] (rel_bare hR) (LRel.nil _)).mono fun e W' ⟨m',v',he,hv,_,hs⟩ => ?_⟩
  rw [hv.inv_bool] at he
  exact ⟨he,⟨hs.os,hs.tape,hs.output,hs.size,fun k hk => hs.frame k hk (fun a B L hB => by rw [bare_get] at hB; cases hB) (fun a x L hx => by rw [bare_getIt] at hx; cases hx)⟩⟩
variable {H : Type} {enc : TypeId × Value → H}
theorem post_below {f : Func} {s : ChangeSpec} {apart fresh handsOn again : Bool} {W' : World} {args : Array Value} {v : Value} {ds gs : List (DataW H)} {before pa pv : List MemPlace}
    (hW : DataW.Whole enc P f.params.toList s.vars apart W args.toList ds gs before)
    (hres : ∀ (b : Nat) (sp : Nat → Bool) (hd : Bool),DataW.TrodAll enc P W' b sp hd f.resultTypes.toList (v.resultList f.resultTypes.size) (s.fn H (ds ++ gs)).results [])
    (hargs : ∀ sp : Nat → Bool,(∀ p ∈ before,sp p.block = true) → DataW.TrodAll enc P W' 0 sp true f.params.toList args.toList (s.fn H (ds ++ gs)).args pa)
    (hvars : ∀ sp : Nat → Bool,(∀ p ∈ before,sp p.block = true) → DataW.TrodVars enc P W' sp s.vars (s.fn H (ds ++ gs)).vars pv)
    (hps : before = pa ++ pv) (hb : Below W.heap.size W W')
    (hok : ∀ (j : Nat) (t : TypeId) (r : Value),f.resultTypes[j]? = some t → (v.resultList f.resultTypes.size)[j]? = some r → Value.okWide P W' .any 0 t r) :
    s.post enc P f apart fresh handsOn again W args v W' := by
  have hlt : ∀ p ∈ before,p.block < W.heap.size := fun p hp => hW.lt p hp
  have hold : ∀ p ∈ before,(fun b => decide (b < W.heap.size)) p.block = true := fun p hp => by simpa using hlt p hp
  refine ⟨ds,gs,before,[],pa,pv,hW,hres _ _ _,hargs _ hold,hvars _ hold,World.keptBut_mono (fun p hp => ⟨hp, ?_⟩) (hb.frame (· ∈ before)),fun _ => ?_⟩
  · rw [hps,List.mem_append] at hp
    exact Or.inr hp
  · obtain ⟨_,_,_,_,_,hz,hn⟩ := hW
    refine ⟨hok,_,_,([] ++ pa) ++ pv,⟨[] ++ pa,pv,trodAll_append (hargs _ (fun _ _ => rfl)) (hres _ _ _),hvars _ (fun _ _ => rfl),rfl, ?_, ?_⟩, ?_⟩
    · intro b off hp
      have hin : MemPlace.cell b off ∈ before := by rw [hps]; simpa using hp
      rw [hb.frozen (hlt _ hin)]
      exact hz b off hin
    · intro ha
      have := hn ha
      rw [hps] at this
      simpa using this
    · intro p hp _
      rw [hps]
      simpa using hp
def bareBlk (e : TypeId) : Blk := ⟨[],e,false,false⟩
theorem lies_bare {g : Nat} {t : TypeId} {zero : Array Value} (e : TypeId) (h : W.ShapedOpen P) (hg : g < P.globals.size) (h0 : ((begin P (fun _ _ => 0) default).world.heap[g]?).bind Obj.row? = some (zero,t)) : Lies W (bareBlk e) ⟨g,0,0⟩ := by
  obtain ⟨cs,hh,hs,_⟩ := h.1 g zero t hg h0
  exact ⟨rfl,rfl,(Array.getElem?_eq_some_iff.1 hh).1,.inr ⟨cs,t,(0,0),hh,Nat.zero_le _⟩,fun k v hk => by cases hk⟩
end
end Go.Abs
