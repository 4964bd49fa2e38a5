import Derived.Test.YtlclleihoampdaaFA
import Derived.Laws.Append
import Derived.Laws.Externs
import Derived.Lib.MakeNoZero
import Derived.Lib.BytesEntry
import Derived.RangeFuncLeaves
set_option linter.unusedVariables false
set_option linter.unusedSimpArgs false
namespace Go.Sx
open Go
section
variable {P:Program} {o:Oper} {σ:Names} {s:SS} {w:World} {K:SV→SS→Prop}

theorem run_askRoom (n:Nat) (w:World):(askRoom n).run P w=.ok () w:=by
  unfold askRoom;split<;>rfl
theorem kiE {need old bytes:Nat} (h:old<need) (hb:need*bytes≤140737488355328):Builtin.nextslicecap need old*bytes≤281474976710656:=by
  have h1:=nextslicecap_le h;have h2:Builtin.nextslicecap need old*bytes≤(2*need)*bytes:=Nat.mul_le_mul_right _ h1;rw[Nat.mul_assoc] at h2;omega
theorem kiF (need old:Nat) (e:TypeId) (t:Nat):need≤(Question.appendCap need old e).cut t:=by simp[Question.cut]
theorem kc6 {n bytes:Nat} (hby:1≤bytes) (h:n*bytes≤140737488355328):n≤140737488355328:=by
  have:n*1≤n*bytes:=Nat.mul_le_mul_left _ hby;omega
theorem ke2 {t u e e' ty:TypeId} {x:Value} {m n cap:Nat} {news:List Value} {base:Option Addr} {w':World} (ht:P.underlying t=some (.slice e)) (hu:P.underlying u=some (.slice e')) (hs:kG P e=some 1)
    (hlen:(Builtin.lenOf x).run P w=.ok m w) (hfc:(Builtin.firstCells 1 m x).run P w=.ok news.toArray w) (hle:n+m≤cap)
    (hst:∀a,base=some a→(storeCells (a.add n) news).run P w=.ok () w') (hnone:base=none→w'=w) :
    (Builtin.append_ #[t,u] ty #[.slice base n cap,x]).run P w=.ok (.slice base (n+m) cap) w':=by
  cases base with
  | none=>
    obtain rfl:=hnone rfl;simp[Builtin.append_,kM ht,kz hs,kM hu,hlen,hle,hfc]
  | some a=>
    have:=hst a rfl;simp[Builtin.append_,kM ht,kz hs,kM hu,hlen,hle,hfc,this]
theorem kek {t u e e' ty:TypeId} {i:TypeInfo} {z x:Value} {m n cap:Nat} {old news:List Value} {base:Option Addr} (ht:P.underlying t=some (.slice e)) (hu:P.underlying u=some (.slice e')) (hi:P.info? e=some i)
    (hs:i.size=1) (hz:i.zero=some z) (hby:1≤i.bytes) (hlen:(Builtin.lenOf x).run P w=.ok m w) (hfc:(Builtin.firstCells 1 m x).run P w.drew=.ok news.toArray w.drew)
    (hold:(Builtin.firstCells 1 n (.slice base n cap)).run P w.drew=.ok old.toArray w.drew) (hlt:cap<n+m) (hfit:(n+m)*i.bytes≤140737488355328) :
    ∃ c,n+m≤c∧(Builtin.append_ #[t,u] ty #[.slice base n cap,x]).run P w =
      .ok (.slice (some ⟨w.heap.size,0,none⟩) (n+m) c) (w.drew.alloc (.cells ((old++news).toArray++Builtin.zeroCells z.cells (c-(n+m))) e)):=by
  have hcap:=kiE hlt hfit;have hsm:=kc6 hby hfit;refine⟨(Question.appendCap (n+m) cap e).cut (w.tape w.drawn (.appendCap (n+m) cap e)),kiF _ _ _ _,?_⟩
  have hs':kG P e=some 1:=by simp[kG,hi,hs]
  have hti:∀w,(typeInfo e).run P w=.ok i w:=fun w=>by simp[typeInfo,hi]
  have hzv:∀w,(zeroValue e).run P w=.ok z w:=fun w=>by simp[zeroValue,typeInfo,hi,hz]
  have hb0:¬i.bytes=0:=by omega
  have hmx:¬(9223372036854775807:Int)<(n:Int)+(m:Int):=by omega
  simp[Builtin.append_,kM ht,kz hs',kM hu,hlen,show ¬(n+m≤cap) by omega,hti,hb0,IntKind.max,IntKind.bits,show ¬(281474976710656<Builtin.nextslicecap (n+m) cap*i.bytes) by omega,Question.forced,run_askRoom,hold,hfc,hzv,newRow,choose,Sem.run]
  rw[←Array.append_assoc];simp

theorem kac (w:World) (ob:Obj):(w.drew.alloc ob).heap.size=w.heap.size+1:=by
  show(w.heap.push ob).size=_
  simp
theorem Grew.drewAlloc (w:World) (ob:Obj):Grew w (w.drew.alloc ob):=
  ⟨by rw[kac];omega,rfl,rfl,rfl,fun k hk=>by
    show(w.heap.push ob)[k]?=_
    rw[Array.getElem?_push,if_neg (by omega)]⟩
theorem qq (k:IntKind) (n:Nat):Builtin.zeroCells #[Value.int k 0] n=((List.replicate n 0).map (Value.int k)).toArray:=by
  unfold Builtin.zeroCells;apply Array.ext
  · simp
  · intro i h1 h2
    simp[Nat.mod_one]
theorem kel {e:TypeId} {k:IntKind} {bytes m:Nat} {dst:SV} {xs:List Int} (hok:Ok P σ s w) (hm:xs.length=m)
    (Hin:∀base n cap w',den σ dst=.slice base n cap→n+m≤cap→(∀a,base=some a→(storeCells (a.add n) (xs.map (Value.int k))).run P w=.ok () w')→(base=none→w'=w) →
      (execOp (act σ s).eval o).run P w=.ok (.value (.slice base (n+m) cap)) w')
    (Hnew:∀base n cap (old:List Int),den σ dst=.slice base n cap→cap<n+m→(n+m)*bytes≤140737488355328 →
      (Builtin.firstCells 1 n (.slice base n cap)).run P w.drew=.ok (old.map (Value.int k)).toArray w.drew →
      ∃c,n+m≤c∧(execOp (act σ s).eval o).run P w=.ok (.value (.slice (some ⟨w.heap.size,0,none⟩) (n+m) c)) (w.drew.alloc (.cells (((old++xs)++List.replicate (c-(n+m)) 0).map (Value.int k)).toArray e)))
    (h:kiq std s e k bytes dst xs m K):jM P o σ s w K:=by
  -- the two ways, for a block that reads as 'full'
  have key:∀(b len cap cc:Nat) (l full:List Int) (B:SB),s.h[b]?=some B→own B=true→B≠.defd→jh B=false→dst=.slice b .z 1 len cap →
      len≤l.length→(∀i,i<l.length→full[i]?=l[i]?)→cap≤full.length →
      ((σ b=none∧full=[]∧l=[])∨∃g,σ b=some (g,0)∧w.heap[g]?=some (.cells (full.map (Value.int k)).toArray e (0,0))) →
      (len+m)*bytes≤140737488355328→(∀(i:Nat) (C:SB),s.h[i]?=some C→kd0 [b] C True) →
      (∀c,Le (std.addN len m) c→K (.slice b .z 1 (std.addN len m) c) (over b (.buf e k (std.onto l len xs) c) (k9 σ s) s))→jM P o σ s w K:=by
    intro b len cap cc l full B hB ho hnd hrd hdst hlen hfull hcap hmem hfit hmen hK;have hfl:l.length≤full.length:=by
      rcases Nat.lt_or_ge full.length l.length with h|h
      · have:=hfull full.length h
        rw[List.getElem?_eq_none (Nat.le_refl _),List.getElem?_eq_getElem h] at this;cases this
      · exact h
    have htake:full.take len=l.take len:=by
      apply List.ext_getElem?
      intro i;rw[List.getElem?_take,List.getElem?_take];by_cases hi:i<len
      · rw[if_pos hi,if_pos hi,hfull i (by omega)]
      · rw[if_neg hi,if_neg hi]
    by_cases hle:len+m≤cap
    · -- in place
      rcases hmem with⟨hn,hf,hl⟩|⟨g,hg,hh⟩
      · subst hf hl
        have hc0:cap=0:=by simpa using hcap
        have hm0:m=0:=by omega
        have hl0:len=0:=by omega
        subst hc0 hm0 hl0;obtain rfl:xs=[]:=List.eq_nil_of_length_eq_zero hm;have hr:=Hin none 0 0 w (by rw[hdst];simp[den,hn]) (by omega) (fun a ha=>by cases ha) (fun _=>rfl);obtain⟨h1,h2,h3⟩:=hok.over (σ':=σ) (w':=w) (B':=.buf e k (std.onto [] 0 []) 0) hB ho rfl hnd hrd hmen (fun _ _=>rfl)
          (fun q hq=>by rw[hn] at hq;cases hq) (Nat.le_refl _) rfl rfl rfl (fun _ _ _=>rfl) (fun q hq=>by rw[hn] at hq;cases hq) (by rw[hn];exact .inl ⟨rfl,rfl,rfl⟩)
        exact⟨_,σ,_,w,hK 0 ⟨by simp[std]⟩,.inl (by rw[hr];simp[den,hn,std]),h1,h2,h3⟩
      · have hst:=run_storeCells_at (P:=P) g len e (xs.map (Value.int k)) 0 (full.map (Value.int k)).toArray w hh (by simp;omega) (fun v hv=>by
          obtain⟨n,_,rfl⟩:=List.mem_map.1 hv;rfl)
        simp only[Nat.add_zero,List.length_map] at hst;have hr:=Hin (some ⟨g,0,none⟩) len cap _ (by rw[hdst];simp[den,hg,ixN]) hle (fun a ha=>by cases ha;rw[jN,Nat.zero_add];exact hst) (fun h=>by cases h);have hnew:((full.map (Value.int k)).toArray.toList.take len++xs.map (Value.int k)++(full.map (Value.int k)).toArray.toList.drop (len+xs.length)).toArray =
            ((std.onto l len xs++full.drop (len+m)).map (Value.int k)).toArray:=by
          simp[std,←htake,List.map_take,List.map_drop,hm]
        obtain⟨h1,h2,h3⟩:=hok.over (σ':=σ) (w':=w.setRow g ((full.map (Value.int k)).toArray.toList.take len++xs.map (Value.int k)++(full.map (Value.int k)).toArray.toList.drop (len+xs.length)).toArray)
          (B':=.buf e k (std.onto l len xs) cap) hB ho rfl hnd hrd hmen (fun _ _=>rfl)
          (fun q hq=>by rw[hg] at hq;cases hq;exact⟨by simpa using hok.lt b (g,0) (List.getElem?_eq_some_iff.1 hB).1 hg,.inr hg⟩) (by simp) rfl rfl rfl
          (fun k' hk' hne=>setRow_other _ _ _ _ (fun e'=>hne (by rw[e'];exact hg))) (fun q hq=>by rw[hg] at hq;cases hq;rfl)
          (by
            rw[hg];refine .inr ⟨g,full.drop (len+m),rfl,?_,?_⟩
            · rw[setRow_heap _ _ _ _ _ _ hh,hnew]
            · simp[std];omega)
        exact⟨_,σ,_,_,hK cap ⟨by simp[std];omega⟩,.inl (by rw[hr];simp[den,hg,ixN,std]),h1,h2,h3⟩
    · -- into a new block
      have hfc:∃base,den σ dst=.slice base len cap∧(Builtin.firstCells 1 len (.slice base len cap)).run P w.drew=.ok ((l.take len).map (Value.int k)).toArray w.drew:=by
        rcases hmem with⟨hn,hf,hl⟩|⟨g,hg,hh⟩
        · subst hf hl
          have hl0:len=0:=by simpa using hlen
          subst hl0;exact⟨none,by rw[hdst];simp[den,hn],by simp[Builtin.firstCells]⟩
        · refine⟨some ⟨g,0,none⟩,by rw[hdst];simp[den,hg,ixN],?_⟩
          have:=run_loadCells_list (P:=P) w.drew ⟨g,0,none⟩ ((l.take len).map (Value.int k)) (fun j v hj=>by
            rw[jN,Nat.zero_add];have hc:w.drew.cell? ⟨g,j,none⟩=w.cell? ⟨g,j,none⟩:=rfl;rw[hc,kj hh];rw[←htake] at hj;simp only[List.getElem?_map,List.getElem?_take] at hj;split at hj
            · simpa using hj
            · simp at hj)
          simp only[List.length_map,List.length_take,Nat.min_eq_left hlen] at this;simpa [Builtin.firstCells] using this
      obtain⟨base,hden,hfc⟩:=hfc;obtain⟨c,hc,hr⟩:=Hnew base len cap (l.take len) hden (by omega) hfit hfc;have hgr:=Grew.drewAlloc w (.cells (((l.take len++xs)++List.replicate (c-(len+m)) 0).map (Value.int k)).toArray e);have hzero:∀q,σ b=some q→q.2=0:=by
        intro q hq;rcases hmem with⟨hn,_⟩|⟨g,hg,_⟩
        · rw[hn] at hq;cases hq
        · rw[hg] at hq;cases hq;rfl
      obtain⟨h1,h2,h3⟩:=hok.over (σ':=fun i=>if i=b then some (w.heap.size,0) else σ i) (w':=w.drew.alloc (.cells (((l.take len++xs)++List.replicate (c-(len+m)) 0).map (Value.int k)).toArray e))
        (B':=.buf e k (std.onto l len xs) c) hB ho rfl hnd hrd hmen (fun i hi=>by simp[hi])
        (fun q hq=>by simp at hq;subst hq;exact⟨by rw[kac];exact Nat.lt_succ_self _,.inl (Nat.le_refl _)⟩) hgr.size hgr.os hgr.tape hgr.output (fun k' hk' _=>hgr.old k' hk') hzero
        (by
          simp only[if_true];refine .inr ⟨w.heap.size,List.replicate (c-(len+m)) 0,rfl,?_,?_⟩
          · have:=jb w.drew (.cells (((l.take len++xs)++List.replicate (c-(len+m)) 0).map (Value.int k)).toArray e)
            simpa [std] using this
          · simp[std,Nat.min_eq_left hlen];omega)
      exact⟨_,_,_,_,hK c ⟨by simpa [std] using hc⟩,.inl (by rw[hr];simp[den,ixN,std]),h1,h2,h3⟩
  unfold kiq at h;split at h
  · rename_i b len cap
    split at h
    · rename_i e' k' l hB
      split at h
      rotate_left
      · exact h.elim
      rename_i he;split at h
      rotate_left
      · exact h.elim
      rename_i hk;rw[jg] at hk;subst hk
      obtain rfl:e=e':=by simpa using he
      obtain⟨h1,h2,h3,h⟩:=h;obtain⟨hK,hmen⟩:=qM h;obtain⟨g,hg,hh⟩:=hok.blk b _ hB;refine key b len cap 0 l l _ hB rfl (by simp) rfl rfl (by simpa [std] using h1.out) (fun i _=>rfl) (by simpa [std] using h2.out) (.inr ⟨g,hg,hh⟩) (by simpa [std] using h3.out) hmen (fun c hc=>by have h9:=hK c (den σ) hc;rwa [keg] at h9)
    · rename_i e' k' l cc hB
      split at h
      rotate_left
      · exact h.elim
      rename_i he;split at h
      rotate_left
      · exact h.elim
      rename_i hk;rw[jg] at hk;subst hk
      obtain rfl:e=e':=by simpa using he
      obtain⟨h1,h2,h3,h⟩:=h;obtain⟨hK,hmen⟩:=qM h;have h1':=h1.out;have h2':=h2.out;rcases hok.blk b _ hB with⟨hn,hl,hc⟩|⟨g,l',hg,hh,hc⟩
      · refine key b len cap cc l l _ hB rfl (by simp) rfl rfl (by simpa [std] using h1') (fun i _=>rfl) (by subst hl;simp;omega) (.inl ⟨hn,hl,hl⟩) (by simpa [std] using h3.out) hmen (fun c hc=>by have h9:=hK c (den σ) hc;rwa [keg] at h9)
      · refine key b len cap cc l (l++l') _ hB rfl (by simp) rfl rfl (by simpa [std] using h1') (fun i hi=>by rw[List.getElem?_append_left hi]) (by omega) (.inr ⟨g,hg,hh⟩) (by simpa [std] using h3.out) hmen (fun c hc=>by have h9:=hK c (den σ) hc;rwa [keg] at h9)
    · exact h.elim
  · obtain⟨h1,h⟩:=h
    obtain⟨h,hsc⟩:=jp h;have h1:=h1.out;by_cases hm0:m=0
    · subst hm0
      obtain rfl:xs=[]:=List.eq_nil_of_length_eq_zero hm;have hr:=Hin none 0 0 w rfl (by omega) (fun a ha=>by cases ha) (fun _=>rfl);obtain⟨g1,g2,g3⟩:=hok.new hsc (w':=w) (B:=.buf e k [] 0) (p:=none) ⟨Nat.le_refl _,rfl,rfl,rfl,fun _ _=>rfl⟩ (fun q hq=>by cases hq) (.inl ⟨rfl,rfl,rfl⟩);exact⟨_,_,_,w,h 0 ⟨Nat.le_refl _⟩,.inl (by rw[hr];simp[den,more]),g1,g2,g3⟩
    · obtain⟨c,hc,hr⟩:=Hnew none 0 0 [] rfl (by omega) (by simpa using h1) (by simp[Builtin.firstCells])
      simp only[Nat.zero_add,List.nil_append] at hr hc;obtain⟨g1,g2,g3⟩:=hok.new hsc (B:=.buf e k xs c) (p:=some (w.heap.size,0)) (Grew.drewAlloc w (.cells ((xs++List.replicate (c-m) 0).map (Value.int k)).toArray e))
        (fun q hq=>by cases hq;exact⟨Nat.le_refl _,by rw[kac];exact Nat.lt_succ_self _⟩)
        (.inr ⟨w.heap.size,List.replicate (c-m) 0,rfl,jb w.drew _,by simp;omega⟩)
      exact⟨_,_,_,_,h c ⟨hc⟩,.inl (by rw[hr];simp[den,more,ixN]),g1,g2,g3⟩
  · exact h.elim
theorem klA {t u e e':TypeId} {a b:Operand} {a' b':XO} {k:IntKind} {i:TypeInfo} {args:Array Operand} {tys:Array TypeId} (hok:Ok P σ s w)
    (ho:o.op=.call { callee:=.builtin .append,args:=args,argTypes:=tys }) (hargs:args.toList=[a,b]) (htys:tys.toList=[t,u]) (ht:P.underlying t=some (.slice e)) (hu:P.underlying u=some (.slice e')) (hi:P.info? e=some i)
    (hs:i.size=1) (hz:kcr P e k=true) (hby:1≤i.bytes) (ha:cO a=some a') (hb:cO b=some b') {X:XE→SS→Prop}
    (h:kL std P (.appI e k i.bytes a' b') s K X):jM P o σ s w K:=by
  obtain⟨args⟩:=args;obtain⟨tys⟩:=tys;simp only at hargs htys
  subst hargs htys;simp only[kL] at h;obtain⟨xs,m,h,hm,ad,c,hden,hcell,h0⟩:=kaK hok h;have hz':=kcx hz;obtain⟨z,hiz,hzc⟩:∃z,i.zero=some z∧z.cells=#[.int k 0]:=by
    unfold jn at hz';simp only[hi,Option.bind_some] at hz';cases hz0:i.zero with
    |none=>simp[hz0] at hz'
    |some z=>simp[hz0] at hz';exact⟨z,rfl,by rw[←Array.toArray_toList (xs:=z.cells),hz']⟩
  have hs':kG P e=some 1:=by simp[kG,hi,hs]
  have hlen:(Builtin.lenOf (den σ (ev s b'))).run P w=.ok m w:=by rw[hden];simp[Builtin.lenOf]
  have hfc:∀w':World,w'.heap=w.heap→(Builtin.firstCells 1 m (den σ (ev s b'))).run P w'=.ok (xs.map (Value.int k)).toArray w':=by
    intro w' hw';rw[hden];cases ad with
    | none=>
      obtain rfl:=h0 rfl;obtain rfl:xs=[]:=List.eq_nil_of_length_eq_zero hm;simp[Builtin.firstCells]
    | some ad=>
      have:=run_loadCells_list (P:=P) w' ad (xs.map (Value.int k)) (fun j v hj=>by
        simp only[List.getElem?_map,Option.map_eq_some_iff] at hj;obtain⟨n,hn,rfl⟩:=hj;have hlt:=(List.getElem?_eq_some_iff.1 hn).1;have e:w'.cell? (ad.add j)=w.cell? (ad.add j):=by simp[World.cell?,hw']
        rw[e,hcell ad rfl j (by omega)];simp[List.getD,hn])
      rw[List.length_map,hm] at this;simp[Builtin.firstCells,this]
  have hop:∀(r:Value) (w':World),(Builtin.append_ #[t,u] o.type #[den σ (ev s a'),den σ (ev s b')]).run P w=.ok r w'→(execOp (act σ s).eval o).run P w=.ok (.value r) w':=by
    intro r w' hr;simp[execOp,ho,resolve,invoke,builtin,ke ha,ke hb,hr]
  refine kel hok hm (fun base n cap w' hd hle hst hnone=>?_) (fun base n cap old hd hlt hfit hold=>?_) h
  · refine hop _ _ ?_
    rw[hd];exact ke2 ht hu hs' hlen (by rw[hfc w rfl]) hle hst hnone
  · obtain⟨c',hc',hr⟩:=kek (ty:=o.type) ht hu hi hs hiz hby hlen (hfc w.drew rfl) hold hlt hfit
    refine⟨c',hc',hop _ _ ?_⟩
    rw[hd,hr,hzc,qq];rw[List.map_append,List.map_append,List.append_toArray]
theorem kem {t u e ty:TypeId} {ik kk:IntKind} {i:TypeInfo} {z:Value} {m n cap:Nat} {base:Option Addr} {w':World} (ht:P.underlying t=some (.slice e)) (hu:P.underlying u=some (.int kk)) (hi:P.info? e=some i)
    (hs:i.size=1) (hz:i.zero=some z) {x:Value} {l:Int} (hx:x=.int ik l) (hlw:IntKind.i64.wrap l=(m:Int)) (hfit:(m:Int)*i.bytes≤281474976710656) (hle:n+m≤cap)
    (hst:∀a,base=some a→(storeCells (a.add n) (Builtin.zeroCells z.cells m).toList).run P w=.ok () w') (hnone:base=none→w'=w) (h0:m=0→Builtin.zeroCells z.cells m=#[]) :
    (Builtin.append_ #[t,u] ty #[.slice base n cap,x]).run P w=.ok (.slice base (n+m) cap) w':=by
  subst hx;have hs':kG P e=some 1:=by simp[kG,hi,hs]
  have hti:∀w,(typeInfo e).run P w=.ok i w:=fun w=>by simp[typeInfo,hi]
  have hzv:∀w,(zeroValue e).run P w=.ok z w:=fun w=>by simp[zeroValue,typeInfo,hi,hz]
  have hm0:¬(m:Int)<0:=by omega
  have hbig:¬(281474976710656:Int)<(m:Int)*i.bytes:=by omega
  cases base with
  | none=>
    obtain rfl:=hnone rfl;by_cases hm:m=0
    · subst hm
      simp[Builtin.append_,kM ht,kz hs',kM hu,asInt,asIntOf,hlw,hti,show n≤cap by omega]
    · simp[Builtin.append_,kM ht,kz hs',kM hu,asInt,asIntOf,hlw,hm0,hti,hbig,hle,hm,hzv]
  | some a=>
    have:=hst a rfl;by_cases hm:m=0
    · rw[h0 hm] at this
      simp only[Array.toList_empty] at this;subst hm;simp[Builtin.append_,kM ht,kz hs',kM hu,asInt,asIntOf,hlw,hti,this,show n≤cap by omega]
    · simp[Builtin.append_,kM ht,kz hs',kM hu,asInt,asIntOf,hlw,hm0,hti,hbig,hle,hm,hzv,this]
theorem kdQ {t u e ty:TypeId} {ik kk:IntKind} {i:TypeInfo} {z:Value} {m n cap:Nat} {old:List Value} {base:Option Addr} (ht:P.underlying t=some (.slice e)) (hu:P.underlying u=some (.int kk)) (hi:P.info? e=some i)
    (hs:i.size=1) (hz:i.zero=some z) (hby:1≤i.bytes) {x:Value} {l:Int} (hx:x=.int ik l) (hlw:IntKind.i64.wrap l=(m:Int)) (hfit0:(m:Int)*i.bytes≤281474976710656) (h0:m=0→Builtin.zeroCells z.cells m=#[])
    (hold:(Builtin.firstCells 1 n (.slice base n cap)).run P w.drew=.ok old.toArray w.drew) (hlt:cap<n+m) (hfit:(n+m)*i.bytes≤140737488355328) :
    ∃ c,n+m≤c∧(Builtin.append_ #[t,u] ty #[.slice base n cap,x]).run P w =
      .ok (.slice (some ⟨w.heap.size,0,none⟩) (n+m) c) (w.drew.alloc (.cells ((old++(Builtin.zeroCells z.cells m).toList).toArray++Builtin.zeroCells z.cells (c-(n+m))) e)):=by
  subst hx;have hcap:=kiE hlt hfit;have hsm:=kc6 hby hfit;refine⟨(Question.appendCap (n+m) cap e).cut (w.tape w.drawn (.appendCap (n+m) cap e)),kiF _ _ _ _,?_⟩
  have hs':kG P e=some 1:=by simp[kG,hi,hs]
  have hti:∀w,(typeInfo e).run P w=.ok i w:=fun w=>by simp[typeInfo,hi]
  have hzv:∀w,(zeroValue e).run P w=.ok z w:=fun w=>by simp[zeroValue,typeInfo,hi,hz]
  have hb0:¬i.bytes=0:=by omega
  have hmx:¬(9223372036854775807:Int)<(n:Int)+(m:Int):=by omega
  have hm0:¬(m:Int)<0:=by omega
  have hbig:¬(281474976710656:Int)<(m:Int)*i.bytes:=by omega
  by_cases hm:m=0
  · have h0':=h0 hm
    subst hm;rw[h0'];simp only[Nat.add_zero] at *;simp[Builtin.append_,kM ht,kz hs',kM hu,asInt,asIntOf,hlw,show ¬(n≤cap) by omega,hti,hb0,IntKind.max,IntKind.bits,IntKind.signed,show ¬((9223372036854775807:Int)<(n:Int)) by omega,show ¬(281474976710656<Builtin.nextslicecap n cap*i.bytes) by omega,Question.forced,run_askRoom,hold,hzv,newRow,choose,Sem.run]
  · simp[Builtin.append_,kM ht,kz hs',kM hu,asInt,asIntOf,hlw,hm0,hbig,hm,show ¬(n+m≤cap) by omega,hti,hb0,IntKind.max,IntKind.bits,IntKind.signed,hmx,show ¬(281474976710656<Builtin.nextslicecap (n+m) cap*i.bytes) by omega,Question.forced,run_askRoom,hold,hzv,newRow,choose,Sem.run]
    congr 2
    apply Array.ext'
    simp
theorem kkj {v:SV} {K:Int→Prop} (h:kjV v K):∃n ik,K n∧∀σ,den σ v=.int ik n:=by
  unfold kjV at h;split at h
  · exact⟨_,_,h,fun σ=>rfl⟩
  · exact⟨_,_,h,fun σ=>rfl⟩
  · exact h.elim
theorem klB {t u e:TypeId} {a b:Operand} {a' b':XO} {k kk:IntKind} {i:TypeInfo} {args:Array Operand} {tys:Array TypeId} (hok:Ok P σ s w)
    (ho:o.op=.call { callee:=.builtin .append,args:=args,argTypes:=tys }) (hargs:args.toList=[a,b]) (htys:tys.toList=[t,u]) (ht:P.underlying t=some (.slice e)) (hu:P.underlying u=some (.int kk)) (hi:P.info? e=some i)
    (hs:i.size=1) (hz:kcr P e k=true) (hby:1≤i.bytes) (ha:cO a=some a') (hb:cO b=some b') {X:XE→SS→Prop}
    (h:kL std P (.appZ e k i.bytes a' b') s K X):jM P o σ s w K:=by
  obtain⟨args⟩:=args;obtain⟨tys⟩:=tys;simp only at hargs htys
  subst hargs htys;simp only[kL] at h;obtain⟨l,ik,⟨h1,h2,h⟩,hden⟩:=kkj h;have h1:=h1.out;have h2:=h2.out;obtain⟨m,rfl⟩:∃m:Nat,l=m:=⟨l.toNat,by omega⟩;have hm48:(m:Int)≤281474976710656:=by
    have:(m:Int)*1≤(m:Int)*i.bytes:=Int.mul_le_mul_of_nonneg_left (by omega) (by omega);omega
  have hlw:IntKind.i64.wrap (m:Int)=(m:Int):=by
    simp only[IntKind.wrap,IntKind.bits,IntKind.signed];simp;omega
  have htn:std.toN (m:Int)=m:=by simp[std]
  rw[htn] at h;have hz':=kcx hz;obtain⟨z,hiz,hzc⟩:∃z,i.zero=some z∧z.cells=#[.int k 0]:=by
    unfold jn at hz';simp only[hi,Option.bind_some] at hz';cases hz0:i.zero with
    |none=>simp[hz0] at hz'
    |some z=>simp[hz0] at hz';exact⟨z,rfl,by rw[←Array.toArray_toList (xs:=z.cells),hz']⟩
  have hop:∀(r:Value) (w':World),(Builtin.append_ #[t,u] o.type #[den σ (ev s a'),den σ (ev s b')]).run P w=.ok r w'→(execOp (act σ s).eval o).run P w=.ok (.value r) w':=by
    intro r w' hr;simp[execOp,ho,resolve,invoke,builtin,ke ha,ke hb,hr]
  have hzl:(Builtin.zeroCells z.cells m).toList=(std.rep m 0).map (Value.int k):=by rw[hzc,qq];simp[std]
  have h00:m=0→Builtin.zeroCells z.cells m=#[]:=fun h=>by rw[hzc,qq,h];rfl
  refine kel hok (by simp[std]) (fun base n cap w' hd hle hst hnone=>?_) (fun base n cap old hd hlt hfit hold=>?_) h
  · refine hop _ _ ?_
    rw[hd];exact kem ht hu hi hs hiz (hden σ) hlw h2 hle (by rw[hzl];exact hst) hnone h00
  · obtain⟨c',hc',hr⟩:=kdQ (ty:=o.type) ht hu hi hs hiz hby (hden σ) hlw h2 h00 hold hlt hfit
    refine⟨c',hc',hop _ _ ?_⟩
    rw[hd,hr,hzl,hzc,qq];rw[List.map_append,List.map_append,List.append_toArray]
theorem jr {t u e e' ty:TypeId} {x:Value} {m n cap sz:Nat} {news:List Value} {base:Option Addr} {w':World} (ht:P.underlying t=some (.slice e)) (hu:P.underlying u=some (.slice e')) (hs:kG P e=some sz)
    (hlen:(Builtin.lenOf x).run P w=.ok m w) (hfc:(Builtin.firstCells sz m x).run P w=.ok news.toArray w) (hle:n+m≤cap)
    (hst:∀a,base=some a→(storeCells (a.add (n*sz)) news).run P w=.ok () w') (hnone:base=none→w'=w) :
    (Builtin.append_ #[t,u] ty #[.slice base n cap,x]).run P w=.ok (.slice base (n+m) cap) w':=by
  cases base with
  | none=>
    obtain rfl:=hnone rfl;simp[Builtin.append_,kM ht,kz hs,kM hu,hlen,hle,hfc]
  | some a=>
    have:=hst a rfl;simp[Builtin.append_,kM ht,kz hs,kM hu,hlen,hle,hfc,this]
theorem ka2 {t u e e' ty:TypeId} {i:TypeInfo} {z x:Value} {m n cap:Nat} {old news:List Value} {base:Option Addr} (ht:P.underlying t=some (.slice e)) (hu:P.underlying u=some (.slice e')) (hi:P.info? e=some i)
    (hz:i.zero=some z) (hby:1≤i.bytes) (hlen:(Builtin.lenOf x).run P w=.ok m w) (hfc:(Builtin.firstCells i.size m x).run P w.drew=.ok news.toArray w.drew)
    (hold:(Builtin.firstCells i.size n (.slice base n cap)).run P w.drew=.ok old.toArray w.drew) (hlt:cap<n+m) (hfit:(n+m)*i.bytes≤140737488355328) :
    ∃ c,n+m≤c∧(Builtin.append_ #[t,u] ty #[.slice base n cap,x]).run P w =
      .ok (.slice (some ⟨w.heap.size,0,none⟩) (n+m) c) (w.drew.alloc (.cells ((old++news).toArray++Builtin.zeroCells z.cells (c-(n+m))) e)):=by
  have hcap:=kiE hlt hfit;have hsm:=kc6 hby hfit;refine⟨(Question.appendCap (n+m) cap e).cut (w.tape w.drawn (.appendCap (n+m) cap e)),kiF _ _ _ _,?_⟩
  have hs':kG P e=some i.size:=by simp[kG,hi]
  have hti:∀w,(typeInfo e).run P w=.ok i w:=fun w=>by simp[typeInfo,hi]
  have hzv:∀w,(zeroValue e).run P w=.ok z w:=fun w=>by simp[zeroValue,typeInfo,hi,hz]
  have hb0:¬i.bytes=0:=by omega
  have hmx:¬(9223372036854775807:Int)<(n:Int)+(m:Int):=by omega
  simp[Builtin.append_,kM ht,kz hs',kM hu,hlen,show ¬(n+m≤cap) by omega,hti,hb0,IntKind.max,IntKind.bits,show ¬(281474976710656<Builtin.nextslicecap (n+m) cap*i.bytes) by omega,Question.forced,run_askRoom,hold,hfc,hzv,newRow,choose,Sem.run]
  rw[←Array.append_assoc];simp
theorem klC (σ:Names) (a b:List SV):denL σ (a++b)=denL σ a++denL σ b:=by simp[kq]
theorem ken {σ:Names}:∀{l:List SV},kam l=true→∀v∈denL σ l,v.oneCell'=true
  |[],_,v,hv=>by cases hv
  | x :: l,h,v,hv=>by
    simp only[kam] at h;split at h
    · rename_i h1
      simp only[denL,List.mem_cons] at hv;rcases hv with rfl|hv
      · exact(one_cell h1 σ).1
      · exact ken h v hv
    · cases h
theorem kdw {R:List Nat}:∀{a b:List SV},menL R a=false→menL R b=false→menL R (a++b)=false
  |[],_,_,h=>h
  | v :: a,b,ha,hb=>by
    simp only[menL] at ha;split at ha
    · cases ha
    · rename_i h1
      simp only[List.cons_append,menL];rw[if_neg h1];exact kdw ha hb
theorem kfg {R:List Nat}:∀{a:List SV} (n:Nat),menL R a=false→menL R (a.take n)=false
  |[],n,h=>by simpa using h
  |v::a,0,h=>rfl
  | v :: a,n+1,h=>by
    simp only[menL] at h;split at h
    · cases h
    · rename_i h1
      simp only[List.take_succ_cons,menL];rw[if_neg h1];exact kfg n h
theorem kbU (z:Array Value) (n:Nat):(Builtin.zeroCells z n).size=n*z.size:=by simp[Builtin.zeroCells]
theorem qr {g o len sz cap:Nat} {w:World} {cs:List Value} (h:∀j v,cs[j]?=some v→w.cell? ⟨g,o+j,none⟩=some v) (hl:cs.length=len*sz) :
    (Builtin.firstCells sz len (.slice (some ⟨g,o,none⟩) len cap)).run P w=.ok cs.toArray w:=by
  have:=run_loadCells_list (P:=P) w ⟨g,o,none⟩ cs (fun j v hj=>by rw[jN];exact h j v hj);rw[hl] at this;simpa [Builtin.firstCells] using this
theorem keo {sz:Nat} {v:SV} {K:List SV→Nat→Prop} (hok:Ok P σ s w) (h:kir s sz v K) :
    ∃xs m,K xs m∧xs.length=m*sz∧(Builtin.lenOf (den σ v)).run P w=.ok m w∧∀w':World,w'.heap=w.heap→(Builtin.firstCells sz m (den σ v)).run P w'=.ok (denL σ xs).toArray w':=by
  unfold kir at h;split at h
  · rename_i b ix sz' len cap
    split at h
    rotate_left
    · exact h.elim
    rename_i hsz;obtain rfl:sz=sz':=by simpa using hsz
    split at h
    rotate_left
    · exact h.elim
    rename_i t sz2 row c hB;split at h
    rotate_left
    · exact h.elim
    rename_i hle;have hle':ixN ix*sz+len*sz≤row.length:=by rw[←Nat.add_mul];exact hle
    have hl:(List.take (len*sz) (row.drop (ixN ix*sz))).length=len*sz:=by simp;omega
    refine⟨_,_,h,hl,by simp[den,Builtin.lenOf],fun w' hw'=>?_⟩
    rcases hok.blk b _ hB with⟨hn,hr,hc⟩|⟨g,rest,hg,hh,hc⟩
    · subst hr
      have h0:len*sz=0:=by simp at hle';omega
      simp[den,hn,Builtin.firstCells,h0,denL]
    · simp only[den,hg,Option.map_some,Nat.zero_add]
      refine qr (fun j v hj=>?_) (by rw[kq,List.length_map];exact hl)
      have e:w'.cell? ⟨g,ixN ix*sz+j,none⟩=w.cell? ⟨g,ixN ix*sz+j,none⟩:=by simp[World.cell?,hw']
      rw[e,kj hh];rw[kq,List.getElem?_map,List.getElem?_take] at hj;split at hj
      · rename_i hlt
        rw[List.getElem?_drop] at hj;rw[List.getElem?_toArray,List.getElem?_append_left (by rw[kq,List.length_map];omega),kq,List.getElem?_map];exact hj
      · simp at hj
  · exact⟨[],0,h,by simp,by simp[den,Builtin.lenOf],fun w' _=>by simp[den,Builtin.firstCells,denL]⟩
  · exact h.elim
theorem kiG {σ:Names} {sz n:Nat} {f:Nat→List SV} {cs:Nat→Option Value} (hf:∀i,i<n→(f i).length=sz∧∀j v,(f i)[j]?=some v→cs (i*sz+j)=some (den σ v)) :
    ∃vs:List Value,vs.length=n*sz∧(∀k,k<n*sz→cs k=vs[k]?)∧(∀i,i<n→(f i).length=sz∧∀j v,(f i)[j]?=some v→vs[i*sz+j]?=some (den σ v))∧∀v∈vs,∃i u,i<n∧u∈f i∧v=den σ u:=by
  induction n with
  |zero=>exact⟨[],by simp,fun k hk=>by simp at hk,fun i hi=>by omega,fun v hv=>by cases hv⟩
  | succ n ih=>
    obtain⟨vs,h1,h2,h3,h4⟩:=ih (fun i hi=>hf i (by omega));obtain⟨hl,hc⟩:=hf n (by omega);have hd:(denL σ (f n)).length=sz:=by rw[kq,List.length_map,hl]
    have hat:∀(i:Nat),i<n→∀j,j<sz→i*sz+j<n*sz:=fun i hi j hj=>by
      have:(i+1)*sz≤n*sz:=Nat.mul_le_mul_right _ hi;rw[Nat.add_mul] at this;omega
    refine⟨vs++denL σ (f n),by rw[List.length_append,h1,hd,Nat.add_mul,Nat.one_mul],fun k hk=>?_,fun i hi=>?_,fun v hv=>?_⟩
    · by_cases hkn:k<n*sz
      · rw[List.getElem?_append_left (by omega)];exact h2 k hkn
      · rw[List.getElem?_append_right (by omega),h1,jq]
        rw[Nat.add_mul,Nat.one_mul] at hk;have hj:k-n*sz<(f n).length:=by omega
        rw[List.getElem?_eq_getElem hj,Option.map_some];have:=hc (k-n*sz) _ (List.getElem?_eq_getElem hj)
        rwa [show n*sz+(k-n*sz)=k by omega] at this
    · refine⟨(hf i hi).1,fun j v hv=>?_⟩
      have hj:j<sz:=by rw[←(hf i hi).1];exact(List.getElem?_eq_some_iff.1 hv).1
      by_cases hin:i<n
      · rw[List.getElem?_append_left (by have:=hat i hin j hj;omega)];exact(h3 i hin).2 j v hv
      · obtain rfl:i=n:=by omega
        rw[List.getElem?_append_right (by omega),h1,Nat.add_sub_cancel_left,jq,hv];rfl
    · rcases List.mem_append.1 hv with hv|hv
      · obtain⟨i,u,hi,hu,e⟩:=h4 v hv
        exact⟨i,u,by omega,hu,e⟩
      · rw[kq] at hv
        obtain⟨u,hu,rfl⟩:=List.mem_map.1 hv;exact⟨n,u,by omega,hu,rfl⟩
theorem kep:∀{l:List SV},kam l=true→∀u∈l,one u=true
  |[],_,u,hu=>by cases hu
  | x :: l,h,u,hu=>by
    simp only[kam] at h;split at h
    · rename_i h1
      rcases List.mem_cons.1 hu with rfl|hu
      · exact h1
      · exact kep h u hu
    · cases h
def kjn (P:Program) (σ:Names) (w:World) (sz:Nat) (v:SV) (m:Nat) (g:Nat→List SV):Prop:=
  ∃ vs:List Value,vs.length=m*sz∧(Builtin.lenOf (den σ v)).run P w=.ok m w∧(∀w':World,w'.heap=w.heap→(Builtin.firstCells sz m (den σ v)).run P w'=.ok vs.toArray w') ∧
    (∀i,i<m→(g i).length=sz∧∀j u,(g i)[j]?=some u→vs[i*sz+j]?=some (den σ u))∧∀x∈vs,∃i u,i<m∧u∈g i∧x=den σ u
theorem knZ (i:Ix) (f:Nat→List SV) (m:Nat):shF i f m=f (ixN i+m):=by cases i<;>simp[shF,ixN,kjU]
theorem kiH {sz:Nat} {v:SV} {K1:List SV→Prop} {Kf:(Nat→List SV)→Nat→Prop} (hok:Ok P σ s w) (h:kjW std s sz v K1 Kf) :
    (∃xs,K1 xs∧kjn P σ w sz v 1 (fun _=>xs))∨∃g m,Kf g m∧kjn P σ w sz v m g:=by
  have key:∀(b:Nat) (ix:Ix) (len cap n:Nat) (f:Nat→List SV) (q:Option (Nat×Nat)),v=.slice b ix sz len cap→σ b=q→ixN ix+len≤n→((q=none∧n=0)∨∃g o,q=some (g,o)∧∀i,i<n→(f i).length=sz∧∀j u,(f i)[j]?=some u→w.cell? ⟨g,o+(i*sz+j),none⟩=some (den σ u)) →
      kjn P σ w sz v len (shF ix f):=by
    intro b ix len cap n f q hv hq hle hcell;subst hv;rcases hcell with⟨hn,rfl⟩|⟨g,o,hn,hf⟩
    · subst hn
      have h0:len=0:=by omega
      subst h0;exact⟨[],by simp,by simp[den,Builtin.lenOf],fun w' _=>by simp[den,hq,Builtin.firstCells],fun i hi=>by omega,fun x hx=>by cases hx⟩
    · subst hn
      obtain⟨vs,h1,h2,h3,h4⟩:=kiG (σ:=σ) (sz:=sz) (n:=len) (f:=shF ix f) (cs:=fun k=>w.cell? ⟨g,o+ixN ix*sz+k,none⟩) (fun i hi=>by
        rw[knZ];refine⟨(hf (ixN ix+i) (by omega)).1,fun j u hu=>?_⟩
        have:=(hf (ixN ix+i) (by omega)).2 j u hu;rw[Nat.add_mul] at this;rw[show o+ixN ix*sz+(i*sz+j)=o+(ixN ix*sz+i*sz+j) by omega];exact this)
      refine⟨vs,h1,by simp[den,Builtin.lenOf],fun w' hw'=>?_,h3,h4⟩
      simp only[den,hq,Option.map_some];refine qr (fun j u hj=>?_) h1
      have e:w'.cell? ⟨g,o+ixN ix*sz+j,none⟩=w.cell? ⟨g,o+ixN ix*sz+j,none⟩:=by simp[World.cell?,hw']
      rw[e,h2 j (by rw[←h1];exact(List.getElem?_eq_some_iff.1 hj).1)];exact hj
  unfold kjW at h;split at h
  rotate_left
  · exact h.elim
  rename_i b ix sz' len cap;split at h
  rotate_left
  · exact h.elim
  rename_i hsz;obtain rfl:sz=sz':=by simpa using hsz
  split at h
  · rename_i t sz2 row c hB
    split at h
    rotate_left
    · exact h.elim
    split at h
    rotate_left
    · exact h.elim
    rename_i hle;refine .inl ⟨_,h,?_⟩
    have hl:(List.take sz (row.drop (ixN ix*sz))).length=sz:=by rw[Nat.add_mul] at hle;simp;omega
    obtain⟨xs,m,hxm,h1,h2,h3⟩:=keo (K:=fun xs m=>xs=List.take sz (row.drop (ixN ix*sz))∧m=1) hok (v:=.slice b ix sz 1 cap) (sz:=sz) (by
      unfold kir;simp only[beq_self_eq_true,if_true,hB,hle,Nat.one_mul,and_self])
    obtain⟨rfl,rfl⟩:=hxm;refine⟨denL σ _,by rw[kq,List.length_map,hl,Nat.one_mul],h2,h3,fun i hi=>⟨hl,fun j u hu=>?_⟩,fun x hx=>?_⟩
    · obtain rfl:i=0:=by omega
      rw[Nat.zero_mul,Nat.zero_add,jq,hu];rfl
    · rw[kq] at hx
      obtain⟨u,hu,rfl⟩:=List.mem_map.1 hx;exact⟨0,u,by omega,hu,rfl⟩
  · rename_i t sz2 n f hB
    split at h
    rotate_left
    · exact h.elim
    rename_i hs2;obtain rfl:sz=sz2:=by simpa using hs2
    refine .inr ⟨_,_,h.2,key b ix len cap n f _ rfl rfl (by simpa [std] using h.1.out) ?_⟩
    obtain⟨g,cs,hg,hh,_,hf⟩:=hok.blk b _ hB;exact .inr ⟨g,0,hg,fun i hi=>⟨(hf i hi).1,fun j u hu=>by rw[kj hh,Nat.zero_add];exact(hf i hi).2 j u hu⟩⟩
  · rename_i t sz2 n f c hB
    split at h
    rotate_left
    · exact h.elim
    rename_i hs2;obtain rfl:sz=sz2:=by simpa using hs2
    refine .inr ⟨_,_,h.2,key b ix len cap n f _ rfl rfl (by simpa [std] using h.1.out) ?_⟩
    rcases hok.blk b _ hB with⟨hg,hn,_⟩|⟨g,cs,hg,hh,_,_,hf⟩
    · exact .inl ⟨hg,hn⟩
    · exact .inr ⟨g,0,hg,fun i hi=>⟨(hf i hi).1,fun j u hu=>by rw[kj hh,Nat.zero_add];exact(hf i hi).2 j u hu⟩⟩
  · rename_i sz2 n f hB
    split at h
    rotate_left
    · exact h.elim
    rename_i hs2;obtain rfl:sz=sz2:=by simpa using hs2
    refine .inr ⟨_,_,h.2,key b ix len cap n f _ rfl rfl (by simpa [std] using h.1.out) ?_⟩
    exact hok.blk b _ hB
  · exact h.elim
theorem kkk {t u e e':TypeId} {a b:Operand} {a' b':XO} {i:TypeInfo} {z:List Value} {args:Array Operand} {tys:Array TypeId} (hok:Ok P σ s w)
    (ho:o.op=.call { callee:=.builtin .append,args:=args,argTypes:=tys }) (hargs:args.toList=[a,b]) (htys:tys.toList=[t,u]) (ht:P.underlying t=some (.slice e)) (hu:P.underlying u=some (.slice e')) (hi:P.info? e=some i)
    (hz:jn P e=some z) (hzl:z.length=i.size) (hsz:1≤i.size) (hby:1≤i.bytes) (ha:cO a=some a') (hb:cO b=some b')
    (h:knH std s e i.size i.bytes (ev s a') (ev s b') K):jM P o σ s w K:=by
  obtain⟨args⟩:=args;obtain⟨tys⟩:=tys;simp only at hargs htys
  subst hargs htys;obtain⟨m,g,F,hF1,hF2,h,hsrc⟩:∃m g,∃F:(Nat→List SV)→Nat→Nat→List SV,(∀f n j,j<n→F f n j=f j)∧(∀f n j,j<m→F f n (n+j)=g j)∧kis std s e i.size i.bytes (ev s a') m g F K∧kjn P σ w i.size (ev s b') m g:=by
    rcases kiH hok h with⟨xs,h1,h2⟩|⟨g,m,h1,h2⟩
    · refine⟨1,_,_,fun f n j hj=>?_,fun f n j hj=>?_,h1,h2⟩
      · rw[kje,if_neg (by omega)]
      · obtain rfl:j=0:=by omega
        rw[kje,if_pos (by omega)]
    · refine⟨m,g,_,fun f n j hj=>?_,fun f n j hj=>?_,h1,h2⟩
      · rw[kgE,if_pos hj]
      · rw[kgE,if_neg (by omega),Nat.add_sub_cancel_left]
  obtain⟨vs,hm,hlen,hfc,hgv,hvs⟩:=hsrc;obtain⟨zv,hiz,hzc⟩:∃zv,i.zero=some zv∧zv.cells.size=i.size:=by
    unfold jn at hz;simp only[hi,Option.bind_some] at hz;cases hz0:i.zero with
    |none=>simp[hz0] at hz
    |some v=>simp[hz0] at hz;exact⟨v,rfl,by rw[←Array.length_toList,hz,hzl]⟩
  have hs':kG P e=some i.size:=by simp[kG,hi]
  generalize hSZ:i.size=sz at *;have hop:∀(r:Value) (w':World),(Builtin.append_ #[t,u] o.type #[den σ (ev s a'),den σ (ev s b')]).run P w=.ok r w'→(execOp (act σ s).eval o).run P w=.ok (.value r) w':=by
    intro r w' hr;simp[execOp,ho,resolve,invoke,builtin,ke ha,ke hb,hr]
  have hnew:∀base n cap (old:List Value),den σ (ev s a')=.slice base n cap→cap<n+m→(n+m)*i.bytes≤140737488355328 →
      (Builtin.firstCells sz n (.slice base n cap)).run P w.drew=.ok old.toArray w.drew →
      ∃c rest,n+m≤c∧rest.length=(c-(n+m))*sz∧(execOp (act σ s).eval o).run P w=.ok (.value (.slice (some ⟨w.heap.size,0,none⟩) (n+m) c)) (w.drew.alloc (.cells (old++vs++rest).toArray e)):=by
    intro base n cap old hd hlt hfit hold;obtain⟨c,hc,hr⟩:=ka2 (ty:=o.type) (n:=n) (cap:=cap) (old:=old) (base:=base) ht hu hi hiz hby hlen (by rw[hSZ];exact hfc w.drew rfl) (by rw[hSZ];exact hold) hlt hfit;refine⟨c,(Builtin.zeroCells zv.cells (c-(n+m))).toList,hc,?_,hop _ _ ?_⟩
    · rw[Array.length_toList,kbU,hzc]
    · rw[hd,hr]
      have:(old++vs).toArray++Builtin.zeroCells zv.cells (c-(n+m))=(old++vs++(Builtin.zeroCells zv.cells (c-(n+m))).toList).toArray:=by
        apply Array.ext';simp
      rw[this]
  have hat:∀(n i j:Nat),i<n→j<sz→i*sz+j<n*sz:=fun n i j hi hj=>by
    have:(i+1)*sz≤n*sz:=Nat.mul_le_mul_right _ hi;rw[Nat.add_mul] at this;omega
  -- an append to rows that are there
  have core : ∀(b:Nat) (B:SB) (n cc len cap:Nat) (f R:Nat→List SV),(∀j,j<len→R j=f j)→(∀j,j<m→R (len+j)=g j)→ev s a'=.slice b .z sz len cap→s.h[b]?=some B→own B=true→B≠.defd→jh B=false→holds P σ (σ b) w (.bufA e sz n f cc) →
      len≤n→cap≤cc→(len+m)*i.bytes≤140737488355328→(∀i,i<len→menL [b] (f i)=false)→(∀i,menL [b] (g i)=false)→(∀i,kam (g i)=true)→(∀(i:Nat) (C:SB),s.h[i]?=some C→kd0 [b] C True) →
      (∀c js,Le (len+m) c→K (.slice b .z sz (len+m) c) (over b (.bufA e sz (len+m) R c) js s))→jM P o σ s w K:=by
    intro b B n cc len cap f R hrow1 hrow hdst hB ho1 ho2 ho3 hblk hln hcc hfit hmf hmg hone hmen hK;have honeV:∀v∈vs,v.oneCell'=true:=fun v hv=>by
      obtain⟨i,u,_,hu,rfl⟩:=hvs v hv;exact(one_cell (kep (hone i) u hu) σ).1
    -- the rows of the result, out of cells
    have hres:∀(σ':Names) (cs':Array Value),(∀i,i<len→∀(j:Nat) (v:SV),(f i)[j]?=some v→den σ' v=den σ v)→(∀i,i<m→∀(j:Nat) (v:SV),(g i)[j]?=some v→den σ' v=den σ v) →
        (∀i,i<len→(f i).length=sz∧∀(j:Nat) (v:SV),(f i)[j]?=some v→cs'[i*sz+j]?=some (den σ v))→(∀k,k<m*sz→cs'[len*sz+k]?=vs[k]?) →
        ∀i,i<len+m→(R i).length=sz∧∀(j:Nat) (v:SV),(R i)[j]?=some v→cs'[i*sz+j]?=some (den σ' v):=by
      intro σ' cs' h1 h2 h3 h4 i hi;by_cases hil:i<len
      · rw[hrow1 i hil]
        exact⟨(h3 i hil).1,fun j v hv=>by rw[h1 i hil j v hv];exact(h3 i hil).2 j v hv⟩
      · obtain⟨k,rfl⟩:∃k,i=len+k:=⟨i-len,by omega⟩
        have hk:k<m:=by omega
        rw[hrow k hk];refine⟨(hgv k hk).1,fun j v hv=>?_⟩
        have hj:j<sz:=by rw[←(hgv k hk).1];exact(List.getElem?_eq_some_iff.1 hv).1
        rw[h2 k hk j v hv,Nat.add_mul,Nat.add_assoc,h4 _ (hat m k j hk hj)];exact(hgv k hk).2 j v hv
    by_cases hle:len+m≤cap
    · rcases hblk with⟨hn,rfl,rfl⟩|⟨gb,cs,hg,hh,hsz1,hsz2,hf⟩
      · have hc0:cap=0:=by omega
        have hm0:m=0:=by omega
        have hl0:len=0:=by omega
        subst hc0 hm0 hl0;obtain rfl:vs=[]:=List.eq_nil_of_length_eq_zero (by simpa using hm);have hr:=hop _ w (jr (ty:=o.type) (n:=0) (cap:=0) (base:=none) (w':=w) ht hu hs' hlen (hfc w rfl) (Nat.le_refl _) (fun a ha=>by cases ha) (fun _=>rfl) |> (by rw[hdst];simpa [den,hn] using ·))
        obtain⟨h1,h2,h3⟩:=hok.over (σ':=σ) (w':=w) (B':=.bufA e sz (0+0) R 0) hB ho1 rfl ho2 ho3 hmen (fun _ _=>rfl)
          (fun q hq=>by rw[hn] at hq;cases hq) (Nat.le_refl _) rfl rfl rfl (fun _ _ _=>rfl) (fun q hq=>by rw[hn] at hq;cases hq) (by rw[hn];exact .inl ⟨rfl,rfl,rfl⟩)
        exact⟨_,σ,_,w,hK 0 _ ⟨Nat.le_refl _⟩,.inl (by rw[hr];simp[den,hn]),h1,h2,h3⟩
      · have hcs:cap*sz≤cs.size:=Nat.le_trans (Nat.mul_le_mul_right sz hcc) hsz2
        have hfit':len*sz+m*sz≤cs.size:=by rw[←Nat.add_mul];exact Nat.le_trans (Nat.mul_le_mul_right sz hle) hcs
        have hst:=run_storeCells_at (P:=P) gb (len*sz) e vs 0 cs w hh (by rw[hm];simpa using hfit') honeV;simp only[Nat.add_zero] at hst;have hr:=hop _ _ (jr (ty:=o.type) (n:=len) (cap:=cap) (base:=some ⟨gb,0,none⟩) (w':=_) ht hu hs' hlen (hfc w rfl) hle (fun a ha=>by cases ha;rw[jN,Nat.zero_add];exact hst) (fun h=>by cases h) |> (by rw[hdst];simpa [den,hg,ixN] using ·))
        generalize hnw:(cs.toList.take (len*sz)++vs++cs.toList.drop (len*sz+vs.length)).toArray=nw at *;have htl:(cs.toList.take (len*sz)).length=len*sz:=by simp;omega
        have hnsz:nw.size=cs.size:=by rw[←hnw];simp;omega
        have hlo:∀k,k<len*sz→nw[k]?=cs[k]?:=fun k hk=>by
          rw[←hnw,List.getElem?_toArray,List.append_assoc,List.getElem?_append_left (by omega),List.getElem?_take_of_lt hk,Array.getElem?_toList]
        have hhi:∀k,k<m*sz→nw[len*sz+k]?=vs[k]?:=fun k hk=>by
          rw[←hnw,List.getElem?_toArray,List.append_assoc,List.getElem?_append_right (by omega),htl,Nat.add_sub_cancel_left,List.getElem?_append_left (by omega)]
        obtain⟨k1,k2,k3⟩:=hok.over (σ':=σ) (w':=w.setRow gb nw) (B':=.bufA e sz (len+m) R cap) hB ho1 rfl ho2 ho3 hmen (fun _ _=>rfl)
          (fun q hq=>by rw[hg] at hq;cases hq;exact⟨by simpa using hok.lt b (gb,0) (List.getElem?_eq_some_iff.1 hB).1 hg,.inr hg⟩) (by simp) rfl rfl rfl
          (fun k' hk' hne=>setRow_other _ _ _ _ (fun e'=>hne (by rw[e'];exact hg))) (fun q hq=>by rw[hg] at hq;cases hq;rfl)
          (by
            rw[hg];refine .inr ⟨gb,nw,rfl,?_,?_,?_,hres σ nw (fun _ _ _ _ _=>rfl) (fun _ _ _ _ _=>rfl) (fun i hi=>?_) hhi⟩
            · rw[setRow_heap _ _ _ _ _ _ hh]
            · rw[hnsz,Nat.add_mul];exact hfit'
            · rw[hnsz];exact hcs
            · obtain⟨h5,h6⟩:=hf i (by omega)
              refine⟨h5,fun j v hv=>?_⟩
              have hj:j<sz:=by rw[←h5];exact(List.getElem?_eq_some_iff.1 hv).1
              rw[hlo _ (hat len i j hi hj)];exact h6 j v hv)
        exact⟨_,σ,_,_,hK cap _ ⟨hle⟩,.inl (by rw[hr,←hnw];simp[den,hg,ixN]),k1,k2,k3⟩
    · have hold:∃(base:Option Addr) (old:List Value),den σ (ev s a')=.slice base len cap∧old.length=len*sz∧(Builtin.firstCells sz len (.slice base len cap)).run P w.drew=.ok old.toArray w.drew ∧
          (∀i,i<len→(f i).length=sz∧∀(j:Nat) (v:SV),(f i)[j]?=some v→old[i*sz+j]?=some (den σ v)):=by
        rcases hblk with⟨hn,rfl,rfl⟩|⟨gb,cs,hg,hh,hsz1,hsz2,hf⟩
        · obtain rfl:len=0:=by omega
          exact⟨none,[],by rw[hdst];simp[den,hn],by simp,by simp[Builtin.firstCells],fun i hi=>by omega⟩
        · have hls:len*sz≤cs.size:=Nat.le_trans (Nat.mul_le_mul_right sz hln) hsz1
          refine⟨some ⟨gb,0,none⟩,cs.toList.take (len*sz),by rw[hdst];simp[den,hg,ixN],by simp;omega,qr (fun j v hj=>?_) (by simp;omega),fun i hi=>⟨(hf i (by omega)).1,fun j v hv=>?_⟩⟩
          · have hc:w.drew.cell? ⟨gb,0+j,none⟩=w.cell? ⟨gb,j,none⟩:=by rw[Nat.zero_add];rfl
            rw[hc,kj hh];rw[List.getElem?_take] at hj;split at hj
            · rwa [Array.getElem?_toList] at hj
            · cases hj
          · have hj:j<sz:=by rw[←(hf i (by omega)).1];exact(List.getElem?_eq_some_iff.1 hv).1
            rw[List.getElem?_take_of_lt (hat len i j hi hj),Array.getElem?_toList];exact(hf i (by omega)).2 j v hv
      obtain⟨base,old,hden,hol,hfc',hf'⟩:=hold;obtain⟨c,rest,hc,hrest,hr⟩:=hnew base len cap _ hden (by omega) hfit hfc';have hgr:=Grew.drewAlloc w (.cells (old++vs++rest).toArray e);have hzero:∀q,σ b=some q→q.2=0:=by
        intro q hq;rcases hblk with⟨hn,_⟩|⟨g,_,hg,_⟩
        · rw[hn] at hq;cases hq
        · rw[hg] at hq;cases hq;rfl
      have hσ':∀i,i∉[b]→(fun i=>if i=b then some (w.heap.size,0) else σ i) i=σ i:=fun i hi=>by simp at hi;simp[hi]
      have hcs:c*sz=(len*sz+m*sz)+(c-(len+m))*sz:=by
        rw[←Nat.add_mul,←Nat.add_mul];congr 1;omega
      obtain⟨k1,k2,k3⟩:=hok.over (σ':=fun i=>if i=b then some (w.heap.size,0) else σ i) (w':=w.drew.alloc (.cells (old++vs++rest).toArray e))
        (B':=.bufA e sz (len+m) R c) hB ho1 rfl ho2 ho3 hmen (fun i hi=>by simp[hi])
        (fun q hq=>by simp at hq;subst hq;exact⟨by rw[kac];exact Nat.lt_succ_self _,.inl (Nat.le_refl _)⟩) hgr.size hgr.os hgr.tape hgr.output (fun k' hk' _=>hgr.old k' hk') hzero
        (by
          simp only[if_true];refine .inr ⟨w.heap.size,(old++vs++rest).toArray,rfl,jb w.drew _,?_,?_,hres _ _ (fun i hi j v hv=>kab hσ' v (qN (hmf i hi) hv)) (fun i _ j v hv=>kab hσ' v (qN (hmg i) hv)) (fun i hi=>?_) (fun k hk=>?_)⟩
          · simp only[List.size_toArray,List.length_append];rw[Nat.add_mul];omega
          · simp only[List.size_toArray,List.length_append];omega
          · refine⟨(hf' i hi).1,fun j v hv=>?_⟩
            have hj:j<sz:=by rw[←(hf' i hi).1];exact(List.getElem?_eq_some_iff.1 hv).1
            rw[List.getElem?_toArray,List.append_assoc,List.getElem?_append_left (by rw[hol];exact hat len i j hi hj)];exact(hf' i hi).2 j v hv
          · rw[List.getElem?_toArray,List.append_assoc,List.getElem?_append_right (by omega),hol,Nat.add_sub_cancel_left,List.getElem?_append_left (by omega)])
      exact⟨_,_,_,_,hK c _ ⟨hc⟩,.inl (by rw[hr];simp[den,ixN]),k1,k2,k3⟩
  unfold kis at h;split at h
  · rename_i b sz' len cap hdst
    split at h
    rotate_left
    · exact h.elim
    rename_i hsz';obtain rfl:sz=sz':=by simpa using hsz'
    split at h
    · rename_i e2 sz2 n f cc hB
      split at h
      rotate_left
      · exact h.elim
      rename_i he;simp only[Bool.and_eq_true,beq_iff_eq] at he;obtain⟨rfl,rfl⟩:=he;obtain⟨h1,h2,h3,h4,h5,h6⟩:=h;obtain⟨hK,hmen⟩:=qM h6;have hmf:=hmen b _ hB;exact core b _ n cc len cap f (F f len) (hF1 f len) (hF2 f len) hdst hB rfl (by simp) rfl (hok.blk b _ hB) h1.out h2.out (by simpa [std] using h3.out) (fun i _=>hmf.1 i) h4 h5 hmen (by simpa [std] using hK)
    · rename_i e2 sz2 cc hB
      split at h
      rotate_left
      · exact h.elim
      rename_i he;simp only[Bool.and_eq_true,beq_iff_eq] at he;obtain⟨rfl,rfl⟩:=he;split at h
      rotate_left
      · exact h.elim
      obtain⟨h2,h3,h4,h5,h6⟩:=h;obtain⟨hK,hmen⟩:=qM h6;refine core b _ 0 cc 0 cap g g (fun j hj=>rfl) (fun j _=>by rw[Nat.zero_add]) hdst hB rfl (by simp) rfl ?_ (Nat.le_refl _) h2.out (by simpa using h3.out) (fun i hi=>by omega) h4 h5 hmen ?_
      · rcases hok.blk b _ hB with⟨k1,_,k3⟩|⟨gb,rest,k1,k2,k3⟩
        · exact .inl ⟨k1,rfl,k3⟩
        · exact .inr ⟨gb,_,k1,k2,by simp,by simpa using k3,fun i hi=>by omega⟩
      · intro c js hc
        simp only[Nat.zero_add] at hc ⊢
        exact hK c js hc
    · exact h.elim
  · rename_i hdst
    obtain⟨h1,h2,h3,h4⟩:=h;obtain⟨h,hsc⟩:=jp h4;have h1:=h1.out;by_cases hm0:m=0
    · subst hm0
      obtain rfl:vs=[]:=List.eq_nil_of_length_eq_zero (by simpa using hm);have hr:=hop _ w (jr (ty:=o.type) (n:=0) (cap:=0) (base:=none) (w':=w) ht hu hs' hlen (hfc w rfl) (Nat.le_refl _) (fun a ha=>by cases ha) (fun _=>rfl) |> (by rw[hdst];simpa [den] using ·))
      obtain⟨g1,g2,g3⟩:=hok.new hsc (w':=w) (B:=.bufA e sz 0 g 0) (p:=none) ⟨Nat.le_refl _,rfl,rfl,rfl,fun _ _=>rfl⟩ (fun q hq=>by cases hq) (.inl ⟨rfl,rfl,rfl⟩);exact⟨_,_,_,w,h 0 ⟨Nat.le_refl _⟩,.inl (by rw[hr];simp[den,more]),g1,g2,g3⟩
    · obtain⟨c,rest,hc,hrest,hr⟩:=hnew none 0 0 [] (by rw[hdst];rfl) (by omega) (by simpa using h1) (by simp[Builtin.firstCells])
      simp only[Nat.zero_add,List.nil_append] at hr hc hrest;have hcs:c*sz=m*sz+(c-m)*sz:=by rw[←Nat.add_mul];congr 1;omega
      obtain⟨g1,g2,g3⟩:=hok.new hsc (B:=.bufA e sz m g c) (p:=some (w.heap.size,0)) (Grew.drewAlloc w (.cells (vs++rest).toArray e))
        (fun q hq=>by cases hq;exact⟨Nat.le_refl _,by rw[kac];exact Nat.lt_succ_self _⟩)
        (.inr ⟨w.heap.size,(vs++rest).toArray,rfl,jb w.drew _,by simp[hm],by simp[hm,hrest];omega,fun i hi=>⟨(hgv i hi).1,fun j v hv=>by
          have hj:j<sz:=by rw[←(hgv i hi).1];exact(List.getElem?_eq_some_iff.1 hv).1
          rw[List.getElem?_toArray,List.getElem?_append_left (by rw[hm];exact hat m i j hi hj),kc5 (fun i hi=>jy hi) v (kaL (h2 i) hv)];exact(hgv i hi).2 j v hv⟩⟩)
      exact⟨_,_,_,_,h c ⟨hc⟩,.inl (by rw[hr];simp[den,more,ixN]),g1,g2,g3⟩
  · exact h.elim
theorem klD {t u e e':TypeId} {a b:Operand} {a' b':XO} {i:TypeInfo} {z:List Value} {args:Array Operand} {tys:Array TypeId} (hok:Ok P σ s w)
    (ho:o.op=.call { callee:=.builtin .append,args:=args,argTypes:=tys }) (hargs:args.toList=[a,b]) (htys:tys.toList=[t,u]) (ht:P.underlying t=some (.slice e)) (hu:P.underlying u=some (.slice e')) (hi:P.info? e=some i)
    (hz:jn P e=some z) (hzl:z.length=i.size) (hsz:1≤i.size) (hby:1≤i.bytes) (ha:cO a=some a') (hb:cO b=some b') {X:XE→SS→Prop}
    (h:kL std P (.appR e i.size i.bytes a' b') s K X):jM P o σ s w K:=by
  obtain⟨args⟩:=args;obtain⟨tys⟩:=tys;simp only at hargs htys
  subst hargs htys;simp only[kL] at h;split at h
  · exact kkk hok ho rfl rfl ht hu hi hz hzl hsz hby ha hb h
  obtain⟨xs,m,h,hm,hlen,hfc⟩:=keo hok h;obtain⟨zv,hiz,hzc⟩:∃zv,i.zero=some zv∧zv.cells.size=i.size:=by
    unfold jn at hz;simp only[hi,Option.bind_some] at hz;cases hz0:i.zero with
    |none=>simp[hz0] at hz
    |some v=>simp[hz0] at hz;exact⟨v,rfl,by rw[←Array.length_toList,hz,hzl]⟩
  have hs':kG P e=some i.size:=by simp[kG,hi]
  generalize hSZ:i.size=sz at *;have hop:∀(r:Value) (w':World),(Builtin.append_ #[t,u] o.type #[den σ (ev s a'),den σ (ev s b')]).run P w=.ok r w'→(execOp (act σ s).eval o).run P w=.ok (.value r) w':=by
    intro r w' hr;simp[execOp,ho,resolve,invoke,builtin,ke ha,ke hb,hr]
  have hnew:∀base n cap (old:List Value),den σ (ev s a')=.slice base n cap→cap<n+m→(n+m)*i.bytes≤140737488355328 →
      (Builtin.firstCells sz n (.slice base n cap)).run P w.drew=.ok old.toArray w.drew →
      ∃c rest,n+m≤c∧rest.length=(c-(n+m))*sz∧(execOp (act σ s).eval o).run P w=.ok (.value (.slice (some ⟨w.heap.size,0,none⟩) (n+m) c)) (w.drew.alloc (.cells (old++denL σ xs++rest).toArray e)):=by
    intro base n cap old hd hlt hfit hold;obtain⟨c,hc,hr⟩:=ka2 (ty:=o.type) (n:=n) (cap:=cap) (old:=old) (base:=base) ht hu hi hiz hby hlen (by rw[hSZ];exact hfc w.drew rfl) (by rw[hSZ];exact hold) hlt hfit;refine⟨c,(Builtin.zeroCells zv.cells (c-(n+m))).toList,hc,?_,hop _ _ ?_⟩
    · rw[Array.length_toList,kbU,hzc]
    · rw[hd,hr]
      have:(old++denL σ xs).toArray++Builtin.zeroCells zv.cells (c-(n+m))=(old++denL σ xs++(Builtin.zeroCells zv.cells (c-(n+m))).toList).toArray:=by
        apply Array.ext';simp
      rw[this]
  have hlx:(denL σ xs).length=m*sz:=by rw[kq,List.length_map];exact hm
  unfold appR at h;split at h
  · rename_i b sz' len cap hdst
    split at h
    rotate_left
    · exact h.elim
    rename_i hsz';split at h
    rotate_left
    · exact h.elim
    rename_i e2 sz2 row cc hB;split at h
    rotate_left
    · exact h.elim
    rename_i he;simp only[Bool.and_eq_true,beq_iff_eq] at he;obtain⟨rfl,rfl⟩:=he;obtain rfl:sz=_:=by simpa using hsz'
    split at h
    · exact h.elim
    rename_i hm1;split at h
    · exact h.elim
    rename_i hm2;split at h
    rotate_left
    · exact h.elim
    rename_i h1;split at h
    rotate_left
    · exact h.elim
    rename_i hrl;obtain⟨hc1,hf1,h⟩:=h;obtain⟨hK,hmen⟩:=qM h;have hc1:=hc1.out;have hf1:=hf1.out;simp only[Bool.not_eq_true] at hm1 hm2;have hmn:menL [b] (row.take (len*sz)++xs)=false:=kdw (kfg _ hm2) hm1;have hdt:denL σ (row.take (len*sz)++xs)=(denL σ row).take (len*sz)++denL σ xs:=by rw[klC];simp only[kq,List.map_take]
    have hrow:(denL σ row).length=row.length:=by rw[kq,List.length_map]
    by_cases hle:len+m≤cap
    · -- in place
      rcases hok.blk b _ hB with⟨hn,hr,hcc⟩|⟨g,rest,hg,hh,hcc⟩
      · subst hr hcc
        have hc0:cap=0:=by omega
        have hm0:m=0:=by omega
        have hl0:len=0:=by omega
        subst hc0 hm0 hl0;obtain rfl:xs=[]:=List.eq_nil_of_length_eq_zero (by simpa using hm);have hr:=hop _ w (jr (ty:=o.type) (n:=0) (cap:=0) (base:=none) (w':=w) ht hu hs' hlen (hfc w rfl) (Nat.le_refl _) (fun a ha=>by cases ha) (fun _=>rfl) |> (by rw[hdst];simpa [den,hn] using ·))
        obtain⟨h1,h2,h3⟩:=hok.over (σ':=σ) (w':=w) (B':=.bufR e sz (([]:List SV).take (0*sz)++[]) 0) hB rfl rfl (by simp) rfl hmen (fun _ _=>rfl)
          (fun q hq=>by rw[hn] at hq;cases hq) (Nat.le_refl _) rfl rfl rfl (fun _ _ _=>rfl) (fun q hq=>by rw[hn] at hq;cases hq) (by rw[hn];exact .inl ⟨rfl,by simp,rfl⟩)
        exact⟨_,σ,_,w,hK 0 _ ⟨Nat.le_refl _⟩,.inl (by rw[hr];simp[den,hn]),h1,h2,h3⟩
      · have hfit:(len+m)*sz≤(denL σ row++rest).length:=Nat.le_trans (Nat.mul_le_mul_right sz (Nat.le_trans hle hc1)) hcc
        have hfit':len*sz+m*sz≤(denL σ row++rest).length:=by rw[←Nat.add_mul];exact hfit
        have hst:=run_storeCells_at (P:=P) g (len*sz) e (denL σ xs) 0 (denL σ row++rest).toArray w hh (by rw[hlx];simpa using hfit') (ken h1);simp only[Nat.add_zero] at hst;have hr:=hop _ _ (jr (ty:=o.type) (n:=len) (cap:=cap) (base:=some ⟨g,0,none⟩) (w':=_) ht hu hs' hlen (hfc w rfl) hle (fun a ha=>by cases ha;rw[jN,Nat.zero_add];exact hst) (fun h=>by cases h) |> (by rw[hdst];simpa [den,hg,ixN] using ·))
        generalize hnw:((denL σ row++rest).toArray.toList.take (len*sz)++denL σ xs++(denL σ row++rest).toArray.toList.drop (len*sz+(denL σ xs).length)).toArray=nw at *;have hnw':nw=(denL σ (row.take (len*sz)++xs)++(denL σ row++rest).drop (len*sz+m*sz)).toArray:=by
          rw[←hnw,hlx,hdt];simp only[List.take_append_of_le_length (show len*sz≤(denL σ row).length by rw[hrow];exact hrl)]
        obtain⟨k1,k2,k3⟩:=hok.over (σ':=σ) (w':=w.setRow g nw) (B':=.bufR e sz (row.take (len*sz)++xs) cap) hB rfl rfl (by simp) rfl hmen (fun _ _=>rfl)
          (fun q hq=>by rw[hg] at hq;cases hq;exact⟨by simpa using hok.lt b (g,0) (List.getElem?_eq_some_iff.1 hB).1 hg,.inr hg⟩) (by simp) rfl rfl rfl
          (fun k' hk' hne=>setRow_other _ _ _ _ (fun e'=>hne (by rw[e'];exact hg))) (fun q hq=>by rw[hg] at hq;cases hq;rfl)
          (by
            rw[hg];refine .inr ⟨g,(denL σ row++rest).drop (len*sz+m*sz),rfl,?_,?_⟩
            · rw[setRow_heap _ _ _ _ _ _ hh,hnw']
            · rw[hdt]
              have hcs:cap*sz≤cc*sz:=Nat.mul_le_mul_right sz hc1;simp only[List.length_append,List.length_take,List.length_drop,hlx] at *;omega)
        exact⟨_,σ,_,_,hK cap _ ⟨hle⟩,.inl (by rw[hr,←hnw];simp[den,hg,ixN]),k1,k2,k3⟩
    · -- into a new block
      have hold:∃base,den σ (ev s a')=.slice base len cap∧(Builtin.firstCells sz len (.slice base len cap)).run P w.drew=.ok ((denL σ row).take (len*sz)).toArray w.drew:=by
        rcases hok.blk b _ hB with⟨hn,hr,hcc⟩|⟨g,rest,hg,hh,hcc⟩
        · subst hr
          exact⟨none,by rw[hdst];simp[den,hn],by simp[Builtin.firstCells,denL]⟩
        · refine⟨some ⟨g,0,none⟩,by rw[hdst];simp[den,hg,ixN],qr (fun j v hj=>?_) (by simp[hrow];omega)⟩
          have hc:w.drew.cell? ⟨g,0+j,none⟩=w.cell? ⟨g,j,none⟩:=by rw[Nat.zero_add];rfl
          rw[hc,kj hh];rw[List.getElem?_take] at hj;split at hj
          · rw[List.getElem?_toArray,List.getElem?_append_left (by omega)];exact hj
          · cases hj
      obtain⟨base,hden,hfc'⟩:=hold;obtain⟨c,rest,hc,hrest,hr⟩:=hnew base len cap _ hden (by omega) hf1 hfc';rw[←hdt] at hr;have hgr:=Grew.drewAlloc w (.cells (denL σ (row.take (len*sz)++xs)++rest).toArray e);have hzero:∀q,σ b=some q→q.2=0:=by
        intro q hq;rcases hok.blk b _ hB with⟨hn,_⟩|⟨g,_,hg,_⟩
        · rw[hn] at hq;cases hq
        · rw[hg] at hq;cases hq;rfl
      have hσ':denL (fun i=>if i=b then some (w.heap.size,0) else σ i) (row.take (len*sz)++xs)=denL σ (row.take (len*sz)++xs):=
        men_denL (R:=[b]) (fun i hi=>by simp at hi;simp[hi]) _ hmn
      obtain⟨k1,k2,k3⟩:=hok.over (σ':=fun i=>if i=b then some (w.heap.size,0) else σ i) (w':=w.drew.alloc (.cells (denL σ (row.take (len*sz)++xs)++rest).toArray e))
        (B':=.bufR e sz (row.take (len*sz)++xs) c) hB rfl rfl (by simp) rfl hmen (fun i hi=>by simp[hi])
        (fun q hq=>by simp at hq;subst hq;exact⟨by rw[kac];exact Nat.lt_succ_self _,.inl (Nat.le_refl _)⟩) hgr.size hgr.os hgr.tape hgr.output (fun k' hk' _=>hgr.old k' hk') hzero
        (by
          simp only[if_true];refine .inr ⟨w.heap.size,rest,rfl,?_,?_⟩
          · rw[hσ'];exact jb w.drew _
          · rw[hσ',hdt]
            have hcs:c*sz=(len*sz+m*sz)+(c-(len+m))*sz:=by
              rw[←Nat.add_mul,←Nat.add_mul];congr 1;omega
            simp only[List.length_append,List.length_take,hlx,hrest,hrow];omega)
      exact⟨_,_,_,_,hK c _ ⟨hc⟩,.inl (by rw[hr];simp[den,ixN]),k1,k2,k3⟩
  · rename_i hdst
    obtain⟨h1,h⟩:=h;obtain⟨h,hsc⟩:=jp h;have h1:=h1.out;split at h
    rotate_left
    · exact h.elim
    rename_i hsx;by_cases hm0:m=0
    · subst hm0
      obtain rfl:xs=[]:=List.eq_nil_of_length_eq_zero (by simpa using hm);have hr:=hop _ w (jr (ty:=o.type) (n:=0) (cap:=0) (base:=none) (w':=w) ht hu hs' hlen (hfc w rfl) (Nat.le_refl _) (fun a ha=>by cases ha) (fun _=>rfl) |> (by rw[hdst];simpa [den] using ·))
      obtain⟨g1,g2,g3⟩:=hok.new hsc (w':=w) (B:=.bufR e sz [] 0) (p:=none) ⟨Nat.le_refl _,rfl,rfl,rfl,fun _ _=>rfl⟩ (fun q hq=>by cases hq) (.inl ⟨rfl,rfl,rfl⟩);exact⟨_,_,_,w,h 0 ⟨Nat.le_refl _⟩,.inl (by rw[hr];simp[den,more]),g1,g2,g3⟩
    · obtain⟨c,rest,hc,hrest,hr⟩:=hnew none 0 0 [] (by rw[hdst];rfl) (by omega) (by simpa using h1) (by simp[Builtin.firstCells])
      simp only[Nat.zero_add,List.nil_append] at hr hc hrest;have hd:denL (more σ s.h.length (some (w.heap.size,0))) xs=denL σ xs:=sc_denL (fun i hi=>jy hi) xs hsx;obtain⟨g1,g2,g3⟩:=hok.new hsc (B:=.bufR e sz xs c) (p:=some (w.heap.size,0)) (Grew.drewAlloc w (.cells (denL σ xs++rest).toArray e))
        (fun q hq=>by cases hq;exact⟨Nat.le_refl _,by rw[kac];exact Nat.lt_succ_self _⟩)
        (.inr ⟨w.heap.size,rest,rfl,by rw[hd];exact jb w.drew _,by
          rw[hd];have hcs:c*sz=m*sz+(c-m)*sz:=by rw[←Nat.add_mul];congr 1;omega
          simp only[List.length_append,hlx,hrest];omega⟩)
      exact⟨_,_,_,_,h c ⟨hc⟩,.inl (by rw[hr];simp[den,more,ixN]),g1,g2,g3⟩
  · exact h.elim
theorem kkl {t e:TypeId} {us:List TypeId} {a b:Operand} {a' b':XO} {k:IntKind} {args:Array Operand} {tys:Array TypeId} (hok:Ok P σ s w)
    (ho:o.op=.call { callee:=.builtin .copy,args:=args,argTypes:=tys }) (hargs:args.toList=[a,b]) (htys:tys.toList=t::us) (ht:P.underlying t=some (.slice e))
    (hs:kG P e=some 1) (ha:cO a=some a') (hb:cO b=some b') {X:XE→SS→Prop}
    (h:kL std P (.copyI k a' b') s K X):jM P o σ s w K:=by
  obtain⟨args⟩:=args;obtain⟨tys⟩:=tys;simp only at hargs htys
  subst hargs htys;simp only[kL] at h;obtain⟨xs,m,h,hm,ad,c,hden,hcell,h0⟩:=kaK hok h;unfold kgJ at h;split at h
  rotate_left
  · exact h.elim
  rename_i bb ix len cap hdst;split at h
  rotate_left
  · exact h.elim
  rename_i t' k' l hB;split at h
  rotate_left
  · exact h.elim
  rename_i hk;rw[jg] at hk;subst hk
  obtain⟨h1,hK⟩:=h;have h1:=h1.out;obtain⟨g,hg,hh⟩:=hok.blk bb _ hB;obtain⟨n,hn⟩:∃n,n=Nat.min m len:=⟨_,rfl⟩;have hnm:n≤m:=by rw[hn];exact Nat.min_le_left _ _
  have hnl:n≤len:=by rw[hn];exact Nat.min_le_right _ _
  have hmin:std.minI (std.ofN m) (std.ofN len)=(n:Int):=by
    have:n=min m len:=hn;simp only[std];split<;>omega
  have hlt:ixN ix+len≤l.length:=by simpa [std] using h1
  have hlen:(Builtin.lenOf (den σ (ev s b'))).run P w=.ok m w:=by rw[hden];simp[Builtin.lenOf]
  have hfc:(Builtin.firstCells 1 n (den σ (ev s b'))).run P w=.ok ((xs.take n).map (Value.int k)).toArray w:=by
    rw[hden];cases ad with
    | none=>
      obtain rfl:=h0 rfl;obtain rfl:n=0:=by omega
      simp[Builtin.firstCells]
    | some ad=>
      have:=run_loadCells_list (P:=P) w ad ((xs.take n).map (Value.int k)) (fun j v hj=>by
        simp only[List.getElem?_map,Option.map_eq_some_iff] at hj;obtain⟨y,hy,rfl⟩:=hj;have hlt:=(List.getElem?_eq_some_iff.1 hy).1;rw[List.length_take] at hlt;rw[List.getElem?_take,if_pos (by omega)] at hy;rw[hcell ad rfl j (by omega)];simp[List.getD,hy])
      rw[List.length_map,List.length_take,Nat.min_eq_left (by omega)] at this;simp[Builtin.firstCells,this]
  have hxl:((xs.take n).map (Value.int k)).length=n:=by rw[List.length_map,List.length_take];omega
  have hst:=run_storeCells_at (P:=P) g (ixN ix) t' ((xs.take n).map (Value.int k)) 0 (l.map (Value.int k)).toArray w hh (by rw[hxl];simp;omega) (fun v hv=>by
    obtain⟨y,_,rfl⟩:=List.mem_map.1 hv;rfl)
  simp only[Nat.add_zero] at hst;rw[hmin] at hK;have hsub:std.sub xs 0 (std.toN (n:Int))=xs.take n:=by simp[std]
  rw[hsub] at hK;have hnew:((l.map (Value.int k)).toArray.toList.take (ixN ix)++(xs.take n).map (Value.int k)++(l.map (Value.int k)).toArray.toList.drop (ixN ix+((xs.take n).map (Value.int k)).length)).toArray =
      ((std.splice l (ixN ix) (xs.take n)).map (Value.int k)).toArray:=by
    simp[std,List.map_take,List.map_drop]
  rw[hnew] at hst;have hop:(execOp (act σ s).eval o).run P w=.ok (.value (.int .i64 n)) (w.setRow g ((std.splice l (ixN ix) (xs.take n)).map (Value.int k)).toArray):=by
    have hbase:(den σ (ev s a'))=.slice (some ⟨g,ixN ix,none⟩) len cap:=by rw[hdst];simp[den,hg]
    have hr:(Builtin.copy_ (t::us).toArray o.type #[den σ (ev s a'),den σ (ev s b')]).run P w=.ok (goInt n) (w.setRow g ((std.splice l (ixN ix) (xs.take n)).map (Value.int k)).toArray):=by
      rw[hbase];have hst':(storeCells ⟨g,ixN ix,none⟩ ((xs.take n).map (Value.int k))).run P w=.ok () (w.setRow g ((std.splice l (ixN ix) (xs.take n)).map (Value.int k)).toArray):=hst;simp[Builtin.copy_,kM ht,kz hs,hlen,←hn,hfc,←List.map_take,hst',-List.map_take]
    simp[execOp,ho,resolve,invoke,builtin,ke ha,ke hb,hr,goInt]
  have hup:=hok.update (w':=w.setRow g ((std.splice l (ixN ix) (xs.take n)).map (Value.int k)).toArray) (B':=.ints t' k (std.splice l (ixN ix) (xs.take n))) hB rfl hg rfl (fun e=>by cases e) (fun e=>by cases e)
    (fun q hq=>setRow_other _ _ _ _ (fun e=>hq (e.symm▸rfl))) (by simp) rfl rfl rfl ⟨g,rfl,by rw[setRow_heap _ _ _ _ _ _ hh]⟩
  exact⟨_,σ,_,_,hK,.inl (by rw[hop];rfl),hup.1,hup.2,rfl⟩
theorem kdx:∀(n t:Nat) (acc:Array Value),∃L:List Int,L.length=n∧Extern.BytealgMakeNoZero.digits n t acc=acc++(L.map (Value.int .u8)).toArray
  |0,t,acc=>⟨[],rfl,by simp[Extern.BytealgMakeNoZero.digits]⟩
  | n+1,t,acc=>by
    obtain⟨L,h1,h2⟩:=kdx n (t / 256) (acc.push (.int .u8 (Int.ofNat (t % 256))));refine⟨Int.ofNat (t % 256)::L,by simp[h1],?_⟩
    rw[Extern.BytealgMakeNoZero.digits,h2];apply Array.ext'
    simp
theorem kn0 (ps:Array TypeId) (t e:TypeId) (ht:P.underlying t=some (.slice e)) (n:Nat) (hn:n≤281474976710656) (w:World) :
    ∃L:List Int,(Extern.BytealgMakeNoZero.makeNoZero ps #[t] #[.int .i64 n]).run P w=.ok (.slice (some ⟨w.heap.size,0,none⟩) n L.length) (w.drew.drew.alloc (.cells (L.map (Value.int .u8)).toArray e))∧n≤L.length:=by
  obtain ⟨L, h1, h2⟩ := kdx (grownCap w n 0 e) ((Question.extern "internal/bytealg.MakeNoZero.bytes" 0).cut (w.tape (w.drawn + 1) (.extern "internal/bytealg.MakeNoZero.bytes" 0))) #[]
  simp only[Array.empty_append] at h2;have hge:=grownCap_ge w n 0 e;refine⟨L,?_,by rw[h1];simpa using hge⟩
  obtain⟨cs,hr,_,_⟩:=Lib.run_makeNoZero (P:=P) w ps t e ht n hn
  have hd : ∀ cs', cs' = Extern.BytealgMakeNoZero.digits (grownCap w n 0 e) ((Question.extern "internal/bytealg.MakeNoZero.bytes" 0).cut (w.tape (w.drawn + 1) (.extern "internal/bytealg.MakeNoZero.bytes" 0))) #[] →
      (Extern.BytealgMakeNoZero.makeNoZero ps #[t] #[.int .i64 n]).run P w=.ok (.slice (some ⟨w.heap.size,0,none⟩) n cs'.size) (w.drew.drew.alloc (.cells cs' e)):=by
    rintro cs' rfl;have g1:¬(n:Int)<0:=by omega
    have g2:¬(281474976710656:Int)<(n:Int):=by omega
    change (Bind.bind _ _:Sem Value).run P w=_
    simp[run_underlying ht,g1,g2,Question.forced,newRow,Lib.size_digits,grownCap]
  have:=hd _ rfl;rw[h2] at this;simpa using this
theorem kmW {fn : Func} (h1 : fn.name = "internal/bytealg.MakeNoZero") (h2 : fn.origin = "") : Extern.findNext fn = none := by
  unfold Extern.findNext;rw[h1,h2];rfl
theorem kmX {fn : Func} (h1 : fn.name = "internal/bytealg.MakeNoZero") (h2 : fn.origin = "") : Extern.find fn = some (Extern.BytealgMakeNoZero.makeNoZero fn.params fn.resultTypes) := by
  unfold Extern.find;rw[h1,h2];rfl
theorem kiI {f:Operand} {args:Array Operand} {tys:Array TypeId} {f':XO} {x:XO} {e:Nat} (hok:Ok P σ s w)
    (ho:o.op=.call { callee:=.value f,args:=args,argTypes:=tys }) (hf:cO f=some f') (hx:cOs args.toList=some [x]) (hz:klk P f'=some e) {X:XE→SS→Prop}
    (h:kL std P (.nozero e x) s K X):jM P o σ s w K:=by
  have hargs:args.map (act σ s).eval=(denL σ [ev s x]).toArray:=by
    have:=kbA (σ:=σ) (s:=s) hx;rw[List.map_cons,List.map_nil] at this;rw[←this,←Array.toList_map]
  unfold klk at hz;split at hz
  rotate_left
  · cases hz
  rename_i g;rw[Option.bind_eq_some_iff] at hz;obtain⟨fn,hfn,hz⟩:=hz;unfold kou at hz;split at hz
  rotate_left
  · cases hz
  rename_i hc;simp only[Bool.and_eq_true,beq_iff_eq] at hc;obtain⟨⟨hbody,hname⟩,horg⟩:=hc;split at hz
  rotate_left
  · cases hz
  rename_i t hrt;have hrt:fn.resultTypes=#[t]:=Array.ext' hrt;split at hz
  rotate_left
  · cases hz
  rename_i e' ht;obtain rfl:e'=e:=by simpa using hz
  simp only[kL] at h;have hint:∃n:Int,den σ (ev s x)=.int .i64 n∧kll std s e' n K:=by
    unfold intOf at h;split at h
    all_goals first
      |exact h.elim
      | (rename_i k' n hv
         split at h
         · rename_i hk
           rw[jg] at hk;subst hk
           exact⟨n,by rw[hv];rfl,h⟩
         · exact h.elim)
  obtain⟨n,hn,h0,h1,h⟩:=hint;obtain⟨h,hsc⟩:=jp h;have h0:=h0.out;have h1:=h1.out;obtain⟨q,rfl⟩:∃q:Nat,n=q:=⟨n.toNat,by omega⟩;have hq:q≤281474976710656:=by omega
  obtain⟨L,hr,hL⟩:=kn0 (P:=P) fn.params t e' ht q hq w;have hop:(execOp (act σ s).eval o).run P w=.ok (.value (.slice (some ⟨w.heap.size,0,none⟩) q L.length)) (w.drew.drew.alloc (.cells (L.map (Value.int .u8)).toArray e')):=by
    have hcf:(callFunc g (denL σ [ev s x]).toArray).run P w=.ok (.value (.slice (some ⟨w.heap.size,0,none⟩) q L.length)) (w.drew.drew.alloc (.cells (L.map (Value.int .u8)).toArray e')):=by
      rw[run_callFunc_extern hfn (by rw[hname];rfl) hbody (kmW hname horg) (kmX hname horg),hrt];simp only[denL,hn];rw[hr];rfl
    have hev:ev s (.k (.fn g []))=.fn g []:=rfl;simp[execOp,ho,resolve,ke hf,hev,den,denL,Deferred.ofValue,hargs,invoke]
    simpa [denL] using hcf
  have hgr:Grew w (w.drew.drew.alloc (.cells (L.map (Value.int .u8)).toArray e')):=Grew.drewAlloc w.drew _ |> fun g=>⟨g.size,g.os,g.tape,g.output,g.old⟩
  obtain⟨k1,k2,k3⟩:=hok.new hsc (B:=.ints e' .u8 L) (p:=some (w.heap.size,0)) hgr (fun q hq=>by cases hq;exact⟨Nat.le_refl _,by rw[show(w.drew.drew.alloc (.cells (L.map (Value.int .u8)).toArray e')).heap.size=w.heap.size+1 from kac w.drew _];exact Nat.lt_succ_self _⟩)
    ⟨w.heap.size,rfl,jb w.drew.drew _⟩
  exact⟨_,_,_,_,h L ⟨by simpa [std] using hL⟩,.inl (by rw[hop];simp[den,more,ixN,std]),k1,k2,k3⟩
theorem kmY {fn : Func} (h1 : fn.name = "internal/bytealg.Count") (h2 : fn.origin = "") : Extern.findNext fn = none := by
  unfold Extern.findNext;rw[h1,h2];rfl
theorem kmZ {fn : Func} (h1 : fn.name = "internal/bytealg.Count") (h2 : fn.origin = "") : Extern.find fn = some Extern.BytealgCount.count := by
  unfold Extern.find;rw[h1,h2];rfl
theorem kgZ (c:UInt8):∀(l:List UInt8) (n:Int),l.foldl (fun n x=>if x==c then n+1 else n) n=n+((l.filter fun x=>x==c).length:Int)
  |[],n=>by simp
  | x::l,n=>by
    simp only[List.foldl_cons,List.filter_cons,kgZ c l];split<;>simp<;>omega
theorem kkm (w:World) (ad:Option Addr) (m cp:Nat) (xs:List Int) (n:Int) (hl:xs.length=m) (hc:∀b,ad=some b→∀i,i<m→w.cell? (b.add i)=some (.int .u8 (xs.getD i 0))) (h0:ad=none→m=0) :
    (Extern.BytealgCount.count #[.slice ad m cp,.int .u8 n]).run P w=.ok (.int .i64 (kit xs n)) w:=by
  have key:∀b:ByteArray,b.data.toList=Lib.bytesOf xs→b.foldl (fun k x=>if x==n.toNat.toUInt8 then k+1 else k) (0:Int)=((xs.filter fun x=>x.toNat.toUInt8==n.toNat.toUInt8).length:Int):=by
    intro b hb;rw[Lib.foldl_data,hb,kgZ,Int.zero_add,Lib.bytesOf,List.filter_map,List.length_map];rfl
  have hs:Extern.BytealgCount.count #[.slice ad m cp,.int .u8 n]=(do
      let b ←Extern.Bytes.bytesOf (.slice ad m cp)
      let c ←Extern.Bytes.asByte (.int .u8 n)
      pure (goInt (b.foldl (fun n x=>if x==c then n+1 else n) (0:Int)))):=rfl
  rw[hs];cases ad with
  | none=>
    obtain rfl:xs=[]:=List.eq_nil_of_length_eq_zero (by rw[hl];exact h0 rfl);unfold kit;simp[Extern.Bytes.bytesOf,Extern.Bytes.asByte,goInt]
    rfl
  | some b=>
    have hx:=Lib.run_loadBytesX (P:=P) w xs b .empty (fun j x hj=>by
      have hlt:=(List.getElem?_eq_some_iff.1 hj).1;rw[hc b rfl j (by omega),List.getD_eq_getElem?_getD,hj];rfl)
    rw[hl] at hx;have hk:=key ⟨ByteArray.empty.data++(Lib.bytesOf xs).toArray⟩ (by simp);unfold kit;simp only[Extern.Bytes.bytesOf,Extern.Bytes.asByte,Sem.run_bind,hx,Result.andThen,Sem.run_pure];rw[hk];rfl
theorem klE {f:Operand} {args:Array Operand} {tys:Array TypeId} {f':XO} {x c:XO} (hok:Ok P σ s w)
    (ho:o.op=.call { callee:=.value f,args:=args,argTypes:=tys }) (hf:cO f=some f') (hx:cOs args.toList=some [x,c]) (hz:klj P f'=true) {X:XE→SS→Prop}
    (h:kL std P (.cntB x c) s K X):jM P o σ s w K:=by
  have hargs:args.map (act σ s).eval=(denL σ [ev s x,ev s c]).toArray:=by
    have:=kbA (σ:=σ) (s:=s) hx;rw[List.map_cons,List.map_cons,List.map_nil] at this;rw[←this,←Array.toList_map]
  unfold klj at hz;split at hz
  rotate_left
  · cases hz
  rename_i g;cases hfn:P.funcs[g]? with
  |none=>rw[hfn] at hz;cases hz
  |some fn=>
  rw[hfn] at hz;simp only[Option.map_some,Option.getD_some,kov,Bool.and_eq_true,beq_iff_eq] at hz;obtain⟨⟨hbody,hname⟩,horg⟩:=hz;simp only[kL] at h;obtain⟨xs,m,h,hm,ad,cp,hden,hcell,h0⟩:=kaK hok h;have hint:∃n:Int,den σ (ev s c)=.int .u8 n∧K (.int .i64 (kit xs n)) s:=by
    unfold intOf at h;split at h
    all_goals first
      |exact h.elim
      | (rename_i k' n hv
         split at h
         · rename_i hk
           rw[jg] at hk;subst hk
           exact⟨n,by rw[hv];rfl,h _ ⟨rfl⟩⟩
         · exact h.elim)
  obtain⟨n,hn,hK⟩:=hint;have hr:=kkm (P:=P) w ad m cp xs n hm hcell h0;have hcf:(callFunc g (denL σ [ev s x,ev s c]).toArray).run P w=.ok (.value (.int .i64 (kit xs n))) w:=by
    rw[run_callFunc_extern hfn (by rw[hname];rfl) hbody (kmY hname horg) (kmZ hname horg)];simp only[denL,hn,hden];rw[hr];rfl
  have hop:(execOp (act σ s).eval o).run P w=.ok (.value (.int .i64 (kit xs n))) w:=by
    have hev:ev s (.k (.fn g []))=.fn g []:=rfl;simp[execOp,ho,resolve,ke hf,hev,den,denL,Deferred.ofValue,hargs,invoke]
    simpa [denL] using hcf
  exact⟨_,σ,_,_,hK,.inl (by rw[hop];rfl),hok,Step.refl σ s w,rfl⟩
end
end Go.Sx
namespace Go.Sx
open Go
section
variable {P:Program} {o:Oper} {σ:Names} {s:SS} {w:World} {K:SV→SS→Prop} {X:XE→SS→Prop}

theorem kdy (σ:Names) (a b:List SV):denL σ (a++b)=denL σ a++denL σ b:=by simp[kq]
def kga (P:Program) (σ:Names) (s:SS) (w:World) (K:SV→SS→Prop) (dst:Option Tmp) (next:Act→World→Prop):Prop:=
 ∀v σ' s' w',K v s'→Ok P σ' s' w'→Step σ s w σ' s' w'→act σ' s'=act σ s→next (act σ' (put dst v s')) w'
def klF (P:Program) (σ:Names) (s:SS) (w:World) (X:XE→SS→Prop) (Q:Exit→Act→World→Prop):Prop:=
 ∀v σ' s' w',X (.panic v) s'→Ok P σ' s' w'→Step σ s w σ' s' w'→act σ' s'=act σ s→Q (.panic [{ v:=den σ' v,recovered:=false }]) (act σ s) w'
theorem kaM {ρ:Operand→Value} (h:∀c,o.op=.call c→∃b,c.callee=.builtin b):o.about P w ρ=none:=by
 unfold Oper.about;split
 ·rename_i c hc;obtain⟨b,hb⟩:=h c hc;simp[resolve,hb,Target.leads]
 ·rfl
theorem kcy {ρ:Operand→Value} {f:Operand} {args:Array Operand} {tys:Array TypeId} {g:Nat} {cs:Array Value} (ho:o.op=.call { callee:=.value f,args:=args,argTypes:=tys }) (hv:ρ f=.func (.func g) #[] cs):o.about P w ρ=some g:=by
 unfold Oper.about;simp[ho,resolve,hv,Deferred.ofValue,Target.leads]
theorem kg0 {ρ:Operand→Value} {f:Operand} {args:Array Operand} {tys:Array TypeId} {l:Nat} (ho:o.op=.call { callee:=.value f,args:=args,argTypes:=tys }) (hv:ρ f=.func (.yield l) #[] #[]):o.about P w ρ=none:=by
 unfold Oper.about;simp[ho,resolve,hv,Deferred.ofValue,Target.leads]
theorem kb6 {f:Nat} (go:∀(xs:Array Value) (w:World),(callFunc f xs).run P w=.ok (.enter f xs) w) (w:World):kiu P f:=by
 have h:=go #[] w;cases hf:P.funcs[f]? with
 |some fn=>exact⟨fn,hf⟩
 |none=>simp[callFunc,hf] at h
structure Quiet (P:Program) (o:Oper) (a:Act) (w:World):Prop where
 d:∀c,o.op≠.defer c
 ab:∀f,o.about P w a.eval=some f→kiu P f
theorem Quiet.of {a:Act} (h:∀c,o.op≠.defer c) (h2:∀c,o.op=.call c→∃b,c.callee=.builtin b):Quiet P o a w:=⟨h,fun f hf=>by rw[kaM h2] at hf;cases hf⟩
theorem jX {next:Act→World→Prop} {Q:Exit→Act→World→Prop} {r:Option Nat} {a:Act} (hd:Quiet P o a w)
  (h:o.uponIn (FR P r) 0 P a next Q ((execOp a.eval o).run P w)):o.wpIn (FR P r) 0 P a w next Q:=
 ⟨fun f hf=>hd.ab f hf,by rw[Oper.semAt_eq _ _ _ hd.d];exact h⟩
theorem kE {next:Act→World→Prop} {Q:Exit→Act→World→Prop} {r:Option Nat} (hd:Quiet P o (act σ s) w) (h:jM P o σ s w K) (hK:kga P σ s w K o.dst next) :
  o.wpIn (FR P r) 0 P (act σ s) w next Q:=by
 obtain⟨v,σ',s',w',hKv,hr,hok,hst,hact⟩:=h;refine jX hd ?_
 have hn:=hK v σ' s' w' hKv hok hst hact;rcases hr with hr|⟨hr,rfl⟩
 ·rw[hr];simp only[Oper.uponIn];rw[←hact,j5];exact hn
 ·rw[hr];simp only[Oper.uponIn];rw[←hact];have:=j5 σ' s' o.dst .undef;simp only[den] at this;rw[this];exact hn
theorem kfh {x:XOp} (hy:kao P o=some x):∀c,o.op=.call c→∃b,c.callee=.builtin b:=by
 intro c hc;obtain⟨f,args,tys⟩:=c;cases f with
 |builtin b=>exact⟨b,rfl⟩
 |_=>unfold kao at hy;rw[hc] at hy;cases hy
theorem kfi {x:XOp} (hy:kaq P o=some x):∀c,o.op=.call c→∃b,c.callee=.builtin b:=by
 intro c hc;unfold kaq at hy;rw[hc] at hy;cases hy
theorem kaN {x:XOp} {K:Prop} (h:kbS x s K):K∧kbS x s True:=by
 unfold kbS at h ⊢
 split at h
 ·split at h
  ·rename_i he;exact⟨h,by simp only[he]⟩
  ·exact h.elim
 ·exact⟨h,trivial⟩
theorem kg1 {ρ:Operand→Value} {f:Operand} {args:Array Operand} {tys:Array TypeId} (ho:o.op=.call { callee:=.value f,args:=args,argTypes:=tys }) (hv:ρ f=undef):o.about P w ρ=none:=by
 unfold Oper.about;simp[ho,resolve,hv,Deferred.ofValue,undef,Target.leads]
theorem kdz {x:XOp} {gd:Option (Nat×Bool)} {ops:Array Oper} (hg:kd2 ops o.guard=some gd) (hgd:o.guard≠none) (h:kf3 P o=true) (hx:cOp P o=some x) (hsk:kbS x s True):∀f,o.about P w (act σ s).eval=some f→kiu P f:=by
 intro f hf;generalize ha:act σ s=a at hf;unfold kf3 at h;split at h
 ·rename_i q c h1 h2;split at h
  ·rename_i b hb;rw[kaM (fun c' hc'=>by rw[h2] at hc';cases hc';exact⟨b,hb⟩)] at hf;cases hf
  ·rename_i x' hx';split at h
   ·rename_i g hgx;have key:∀a':Act,a.eval x'=a'.eval x':=by
     cases x' with
     |tmp t=>simp[cO] at hgx
     |const v=>intro a';rfl
     |func f=>intro a';rfl
     |global g=>simp[cO] at hgx
    have hv:a.eval x'=.func (.func g) #[] #[]:=by
     rw[key (act (fun _=>none) { t:=[],h:=[],r:=[],d:=[],rd:=none }),ke hgx];rfl
    obtain⟨callee,args,tys⟩:=c;simp only at hx';subst hx'
    rw[kcy h2 hv] at hf;simp only[Option.some.injEq] at hf;rw[←hf];cases hq:P.funcs[g]? with
    |some fn=>exact⟨fn,hq⟩
    |none=>rw[hq] at h;cases h
   ·rename_i n hgx;obtain⟨callee,args,tys⟩:=c;simp only at hx';subst hx'
    have hv:a.eval x'=undef:=by
     rw[←ha,ke hgx];simp only[cOp,kao,kaq,kjY,h2,hgx] at hx;split at hx
     ·rename_i hf' hxs;simp only[Option.some.injEq] at hf';subst hf';have hx:∃xs,x=.call (.t n) xs:=by
       split at hx
       ·rename_i hz;simp only[klk] at hz;cases hz
       ·simp only[klj,Bool.false_eq_true,if_false,Option.some.injEq] at hx;exact⟨_,hx.symm⟩
       ·simp only[Option.some.injEq] at hx;exact⟨_,hx.symm⟩
      obtain⟨xs',rfl⟩:=hx;simp only[kbS] at hsk;split at hsk
      ·rename_i he;simp only[ev,he,den]
      ·exact hsk.elim
     ·cases hx
    rw[kg1 h2 hv] at hf;cases hf
   ·cases h
  ·cases h
 ·rename_i hne;cases hgo:o.guard with
  |none=>exact absurd hgo hgd
  |some q=>
   rw[kaM (fun c' hc'=>(hne q c' hgo hc').elim)] at hf;cases hf
theorem keq {next:Act→World→Prop} {Q:Exit→Act→World→Prop} {f:Operand} {args:Array Operand} {tys:Array TypeId} {f':XO} {xs:List XO} (hok:Ok P σ s w)
  (ho:o.op=.call { callee:=.value f,args:=args,argTypes:=tys }) (hf:cO f=some f') (hx:cOs args.toList=some xs)
  (h:kL std P (.call f' xs) s K X) (hK:kga P σ s w K o.dst next) (hX:klF P σ s w X Q):o.wpIn (FR P (rOf σ s)) 0 P (act σ s) w next Q:=by
 have hargs:args.map (act σ s).eval=(denL σ (xs.map (ev s))).toArray:=by
  rw[←kbA (σ:=σ) (s:=s) hx,←Array.toList_map]
 simp only[kL] at h;have post:∀e w',kjj P σ s w K X e w'→(match e,w' with
   |.returned v,w''=>next ((act σ s).put o.dst v) w''
   |.panicked chain,w''=>Q (.panic chain) (act σ s) w''
   |.outgrown,_=>LetsOut Q):=by
  rintro e w' ⟨σ',s',hok',hst,hact,he⟩;cases e with
  |returned v=>
   obtain⟨v',hKv,rfl⟩:=he;have:=hK v' σ' s' w' hKv hok' hst hact;show next ((act σ s).put o.dst (den σ' v')) w'
   rw[←hact,j5];exact this
  |panicked ch=>
   obtain⟨v',hXv,rfl⟩:=he;exact hX v' σ' s' w' hXv hok' hst hact
  |outgrown=>exact he.elim
 cases hv:ev s f'<;>simp only[hv] at h
 case fn g cs=>
  have hr:(execOp (act σ s).eval o).run P w=.ok (.enter g (denL σ (xs.map (ev s)++cs)).toArray) w:=by
   simp[execOp,ho,resolve,ke hf,hv,den,Deferred.ofValue,hargs,invoke,kdy,h.go]
  refine jX ⟨(by rw[ho];intro c hc;cases hc),fun f' hf'=>by
   rw[kcy ho (g:=g) (by rw[ke hf,hv];rfl)] at hf';cases hf'
   exact kb6 h.go w⟩ ?_
  rw[hr];simp only[Oper.uponIn];exact⟨(fun hd=>by cases hd),(h.out σ w hok).mono post⟩
 case yield l=>
  obtain⟨fn,tmps,asg,body,hinv,hround⟩:=h.out σ w hok;have hr:(execOp (act σ s).eval o).run P w=.ok (.round (((σ l).map (·.1)).getD 0) fn tmps asg body) w:=by
   have e:∀(t:Value),t=.func (.yield (((σ l).map (·.1)).getD 0)) #[] #[]→(Deferred.ofValue t (denL σ (xs.map (ev s))).toArray).run P w=.ok { target:=.fn (.yield (((σ l).map (·.1)).getD 0)) #[],args:=(denL σ (xs.map (ev s))).toArray } w:=by
    intro t ht;subst ht;simp[Deferred.ofValue]
   simp only[execOp,ho,resolve,ke hf,hv,hargs,Sem.run_bind];rw[e _ (by simp[den])];simp only[Result.andThen_ok];exact hinv
  refine jX ⟨(by rw[ho];intro c hc;cases hc),fun f' hf'=>by
   rw[kg0 ho (l:=((σ l).map (·.1)).getD 0) (by rw[ke hf,hv];rfl)] at hf';cases hf'⟩ ?_
  rw[hr];simp only[Oper.uponIn];exact⟨(fun hd=>by cases hd),hround.mono post⟩
theorem kiJ {ρ:Operand→Value} {r:Operand} {nm:String} {args:Array Operand} {tys:Array TypeId} {t g f:Nat} {v:Value} (hM:MethIs P nm t g) (ho:o.op=.call { callee:=.invoke r nm,args:=args,argTypes:=tys }) (hv:ρ r=.iface t v) (h:o.about P w ρ=some f):f=g:=by
 unfold Oper.about at h;simp only[ho,resolve,hv] at h;exact hM.leads _ _ _ _ h
theorem kg2 {next:Act→World→Prop} {Q:Exit→Act→World→Prop} {r:Operand} {nm:String} {args:Array Operand} {tys:Array TypeId} {r':XO} {xs:List XO} (hok:Ok P σ s w)
  (ho:o.op=.call { callee:=.invoke r nm,args:=args,argTypes:=tys }) (hf:cO r=some r') (hx:cOs args.toList=some xs)
  (h:kL std P (.icall nm r' xs) s K X) (hK:kga P σ s w K o.dst next) (hX:klF P σ s w X Q):o.wpIn (FR P (rOf σ s)) 0 P (act σ s) w next Q:=by
 have hargs:args.map (act σ s).eval=(denL σ (xs.map (ev s))).toArray:=by
  rw[←kbA (σ:=σ) (s:=s) hx,←Array.toList_map]
 simp only[kL] at h;cases hv:ev s r'<;>simp only[hv] at h
 rename_i t v;obtain⟨g,hM,h⟩:=h.out;have hrv:(act σ s).eval r=.iface t (den σ v):=by rw[ke hf,hv];rfl
 have hr:(execOp (act σ s).eval o).run P w=.ok (.enter g (denL σ (v::xs.map (ev s))).toArray) w:=by
  have h1:=hM.inv (den σ v) (denL σ (xs.map (ev s))).toArray w;simp only[execOp,ho,resolve,hrv,hargs,Sem.run_bind];have e:(denL σ (v::xs.map (ev s))).toArray=#[den σ v]++(denL σ (xs.map (ev s))).toArray:=by simp[denL]
  rw[e];exact h1
 refine jX ⟨(by rw[ho];intro c hc;cases hc),fun f' hf'=>by
  rw[kiJ hM ho hrv hf'];exact kb6 h.go w⟩ ?_
 rw[hr];simp only[Oper.uponIn];refine⟨(fun hd=>by cases hd),(h.out σ w hok).mono ?_⟩
 rintro e w' ⟨σ',s',hok',hst,hact,he⟩;cases e with
 |returned v=>
  obtain⟨v',hKv,rfl⟩:=he;have:=hK v' σ' s' w' hKv hok' hst hact;show next ((act σ s).put o.dst (den σ' v')) w'
  rw[←hact,j5];exact this
 |panicked ch=>
  obtain⟨v',hXv,rfl⟩:=he;exact hX v' σ' s' w' hXv hok' hst hact
 |outgrown=>exact he.elim
theorem kg3 {x:XOp} {next:Act→World→Prop} {Q:Exit→Act→World→Prop} (hok:Ok P σ s w) (hc:cOp P o=some x) (h:kd6 std P x s K X)
  (hK:kga P σ s w K o.dst next) (hX:klF P σ s w X Q):o.wpIn (FR P (rOf σ s)) 0 P (act σ s) w next Q:=by
 unfold cOp at hc;split at hc
 ·rename_i y hy;simp only[Option.some.injEq] at hc;subst hc
  have hd:Quiet P o (act σ s) w:=.of (fun c hc=>by unfold kao at hy;rw[hc] at hy;cases hy) (kfh hy);have hcl:cls y=.pure:=by
   unfold kao at hy;(repeat' split at hy)<;>first|(cases hy;done)|(cases hy;rfl)|(simp only[Option.map_eq_some_iff] at hy;obtain⟨_,_,rfl⟩:=hy;rfl)
  simp only[kd6,hcl] at h;obtain⟨v,hKv,hr⟩:=kec hok hy h;exact kE hd ⟨v,σ,s,w,hKv,.inl (hr w),hok,Step.refl σ s w,rfl⟩ hK
 ·split at hc
  ·rename_i hp y hy;simp only[Option.some.injEq] at hc;subst hc
   have hd:Quiet P o (act σ s) w:=.of (fun c hc=>by unfold kaq at hy;rw[hc] at hy;cases hy) (kfi hy);have hcl:cls y=.load:=by
    unfold kaq at hy;(repeat' split at hy)<;>first|(cases hy;done)|(cases hy;rfl)
   simp only[kd6,hcl] at h;obtain⟨v,hKv,hr⟩:=kb5 hok hy h;exact kE hd ⟨v,σ,s,w,hKv,.inl hr,hok,Step.refl σ s w,rfl⟩ hK
  ·rename_i hp hl;have hcl:cls x=.act:=by
    unfold kjY at hc;(repeat' split at hc)<;>first|(cases hc;done)|(cases hc;rfl)|(simp only[Option.map_eq_some_iff] at hc;obtain⟨_,_,rfl⟩:=hc;rfl)
   simp only[kd6,hcl] at h;unfold kjY at hc;split at hc
   ·rename_i t ho;have hd:Quiet P o (act σ s) w:=.of (fun c hc=>by rw[ho] at hc;cases hc) (fun c hc=>by rw[ho] at hc;first|(cases hc;done)|(cases hc;exact⟨_,rfl⟩))
    split at hc
    ·split at hc
     ·rename_i n k ha hz;simp only[Option.some.injEq] at hc;subst hc
      exact kE hd (klx hok ho hz h) hK
     ·cases hc
    ·split at hc
     ·rename_i n sz z ha;simp only[Option.some.injEq] at hc;subst hc
      exact kE hd (klz hok ho ha h) hK
     ·simp only[Option.map_eq_some_iff] at hc;obtain⟨z,hz,rfl⟩:=hc;exact kE hd (kly hok ho hz h) hK
   ·rename_i t a ho;have hd:Quiet P o (act σ s) w:=.of (fun c hc=>by rw[ho] at hc;cases hc) (fun c hc=>by rw[ho] at hc;first|(cases hc;done)|(cases hc;exact⟨_,rfl⟩))
    split at hc
    ·rename_i a' ha;simp only[Option.some.injEq] at hc;subst hc
     exact kE hd (kmV hok ho ha _ h) hK
    ·cases hc
   ·rename_i t n parts ho;have hd:Quiet P o (act σ s) w:=.of (fun c hc=>by rw[ho] at hc;cases hc) (fun c hc=>by rw[ho] at hc;first|(cases hc;done)|(cases hc;exact⟨_,rfl⟩))
    split at hc
    rotate_left
    ·cases hc
    rename_i e he;split at hc
    rotate_left
    ·cases hc
    rename_i sz hs;split at hc
    rotate_left
    ·cases hc
    rename_i hn;split at hc
    ·rename_i k hk;split at hc
     ·rename_i hz;obtain⟨rfl,hz⟩:=hz;simp only[Option.map_eq_some_iff] at hc;obtain⟨ps,hps,rfl⟩:=hc;exact kE hd (kgX hok ho he hs hz hn hps h) hK
     ·cases hc
    ·split at hc
     ·cases hc
     split at hc
     rotate_left
     ·cases hc
     rename_i z hz;split at hc
     rotate_left
     ·cases hc
     rename_i hzl;simp only[Option.map_eq_some_iff] at hc;obtain⟨ps,hps,rfl⟩:=hc;subst hzl;exact kE hd (kgY hok ho he hs hz hn hps h) hK
   ·rename_i t a v ho;have hd:Quiet P o (act σ s) w:=.of (fun c hc=>by rw[ho] at hc;cases hc) (fun c hc=>by rw[ho] at hc;first|(cases hc;done)|(cases hc;exact⟨_,rfl⟩))
    split at hc
    ·rename_i a' v' ha hv hag;simp only[Option.map_eq_some_iff] at hc;obtain⟨n,hn,rfl⟩:=hc;exact kE hd (kiD hok ho hn ha hv h) hK
    ·rename_i a' v' ha hv hag;split at hc
     ·rename_i hs;simp only[Option.some.injEq] at hc;subst hc
      exact kE hd (kiC hok ho hs ha hv h) hK
     ·cases hc
    ·cases hc
   ·rename_i t l c ho;have hd:Quiet P o (act σ s) w:=.of (fun c hc=>by rw[ho] at hc;cases hc) (fun c hc=>by rw[ho] at hc;first|(cases hc;done)|(cases hc;exact⟨_,rfl⟩))
    split at hc
    ·rename_i l' c' e hl' hc' he;split at hc
     ·rename_i k i hk hi;split at hc
      ·rename_i hs;obtain⟨h1,h2,h3⟩:=hs;simp only[Option.some.injEq] at hc;subst hc
       exact kE hd (kkg hok ho he hi h1 h2 h3 hl' hc' h) hK
      ·cases hc
     ·rename_i i hk hi;split at hc
      ·rename_i z hz;split at hc
       ·rename_i hs;obtain⟨h1,h2,h3⟩:=hs;simp only[Option.some.injEq] at hc;subst hc
        exact kE hd (kkh hok ho he hi hz h1 h2 h3 hl' hc' h) hK
       ·cases hc
      ·cases hc
     ·cases hc
    ·cases hc
   ·rename_i args tys ho;have hd:Quiet P o (act σ s) w:=.of (fun c hc=>by rw[ho] at hc;cases hc) (fun c hc=>by rw[ho] at hc;first|(cases hc;done)|(cases hc;exact⟨_,rfl⟩))
    split at hc
    rotate_left
    ·cases hc
    rename_i a b t u ha ht;split at hc
    rotate_left
    ·cases hc
    rename_i a' b' e d h1 h2 h3 h4;split at hc
    ·rename_i k i hk hi;split at hc
     rotate_left
     ·cases hc
     rename_i hs;obtain⟨g1,g2,g3⟩:=hs;split at hc
     ·simp only[Option.some.injEq] at hc;subst hc
      exact kE hd (klB hok ho ha ht h3 h4 hi g1 g2 g3 h1 h2 h) hK
     ·simp only[Option.some.injEq] at hc;subst hc
      exact kE hd (klA hok ho ha ht h3 h4 hi g1 g2 g3 h1 h2 h) hK
     ·cases hc
    ·rename_i i hk hi;split at hc
     rotate_left
     ·cases hc
     rename_i e' z hz;split at hc
     rotate_left
     ·cases hc
     rename_i hs;obtain⟨g1,g2,g3⟩:=hs;simp only[Option.some.injEq] at hc;subst hc
     exact kE hd (klD hok ho ha ht h3 h4 hi hz g1 g2 g3 h1 h2 h) hK
    ·cases hc
   ·rename_i args tys ho;have hd:Quiet P o (act σ s) w:=.of (fun c hc=>by rw[ho] at hc;cases hc) (fun c hc=>by rw[ho] at hc;first|(cases hc;done)|(cases hc;exact⟨_,rfl⟩))
    split at hc
    rotate_left
    ·cases hc
    rename_i a b t us ha ht;split at hc
    rotate_left
    ·cases hc
    rename_i a' b' e h1 h2 h3;split at hc
    rotate_left
    ·cases hc
    split at hc
    rotate_left
    ·cases hc
    rename_i hs;simp only[Option.some.injEq] at hc;subst hc
    exact kE hd (kkl hok ho ha ht h3 hs h1 h2 h) hK
   ·rename_i f args tys ho;split at hc
    ·rename_i f' xs hf hx;split at hc
     ·rename_i e x hz;simp only[Option.some.injEq] at hc;subst hc
      refine kE ⟨(fun c hc=>by rw[ho] at hc;cases hc),fun q hq=>?_⟩ (kiI hok ho hf hx hz h) hK
      unfold klk at hz;split at hz
      ·rename_i g;rw[kcy ho (g:=g) (cs:=#[]) (by rw[ke hf];rfl)] at hq;simp only[Option.some.injEq] at hq;rw[←hq];cases hq:P.funcs[g]? with
       |some fn=>exact⟨fn,hq⟩
       |none=>rw[hq] at hz;cases hz
      ·cases hz
     ·rename_i x y _;split at hc
      ·rename_i hz;simp only[Option.some.injEq] at hc;subst hc
       refine kE ⟨(fun c hc=>by rw[ho] at hc;cases hc),fun q hq=>?_⟩ (klE hok ho hf hx hz h) hK
       unfold klj at hz;split at hz
       ·rename_i g;rw[kcy ho (g:=g) (cs:=#[]) (by rw[ke hf];rfl)] at hq;simp only[Option.some.injEq] at hq;rw[←hq];cases hq:P.funcs[g]? with
        |some fn=>exact⟨fn,hq⟩
        |none=>rw[hq] at hz;cases hz
       ·cases hz
      ·simp only[Option.some.injEq] at hc;subst hc
       exact keq hok ho hf hx h hK hX
     ·simp only[Option.some.injEq] at hc;subst hc
      exact keq hok ho hf hx h hK hX
    ·cases hc
   ·rename_i r nm args tys ho;split at hc
    ·rename_i r' xs hf hx;simp only[Option.some.injEq] at hc;subst hc
     exact kg2 hok ho hf hx h hK hX
    ·cases hc
   ·rename_i a ho;simp only[Option.map_eq_some_iff] at hc;obtain⟨a',ha,rfl⟩:=hc;simp only[kL] at h;cases hv:ev s a'<;>simp only[hv] at h
    rename_i t v;refine jX (.of (fun c hc=>by rw[ho] at hc;cases hc) (fun c hc=>by rw[ho] at hc;cases hc)) ?_
    have hr:(execOp (act σ s).eval o).run P w=.halt (.panic (.iface t (den σ v))) w:=by
     simp[execOp,ho,ke ha,hv,den,Instr.panic,goPanic,Sem.run]
    rw[hr];exact hX _ σ s w h hok (Step.refl σ s w) rfl
   ·cases hc

theorem qu {ops:Array Oper} {g:Option (Nat×Bool)} {A B:Unit→Prop} (hg:kd2 ops o.guard=some g) (h:ka9 s g A B) :
  (Region.wanted o (yielded ops (act σ s).tmps)=true∧A ())∨(Region.wanted o (yielded ops (act σ s).tmps)=false∧B ()):=by
 unfold kd2 at hg;split at hg
 ·rename_i h0;simp only[Option.some.injEq] at hg;subst hg
  exact .inl ⟨by simp[Region.wanted,h0],h⟩
 ·rename_i j b h0;split at hg
  rotate_left
  ·cases hg
  rename_i d hd;simp only[Option.some.injEq] at hg;subst hg
  have hy:yielded ops (act σ s).tmps j=(match (s.t[d]?).map (den σ) with|some (.bool c)=>some c|_=>none):=by
   unfold yielded;rw[hd];simp[act,jq]
   cases (s.t[d]?).map (den σ) with
   |none=>rfl
   |some v=>cases v<;>rfl
  simp only[ka9] at h;cases ht:s.t[d]? with
  |none=>
   simp only[List.getD,ht,Option.getD_none] at h;exact .inr ⟨by simp[Region.wanted,h0,hy,ht],h⟩
  | some v=>
   simp only[List.getD,ht,Option.getD_some] at h;cases v<;>simp only at h
   case undef=>exact .inr ⟨by simp[Region.wanted,h0,hy,ht,den,undef],h⟩
   case bool c=>
    cases b<;>cases c<;>simp only at h
    ·exact .inl ⟨by simp[Region.wanted,h0,hy,ht,den],h⟩
    ·exact .inr ⟨by simp[Region.wanted,h0,hy,ht,den],h⟩
    ·exact .inr ⟨by simp[Region.wanted,h0,hy,ht,den],h⟩
    ·exact .inl ⟨by simp[Region.wanted,h0,hy,ht,den],h⟩
end
end Go.Sx
namespace Go.Sx
open Go
section
variable {P:Program} {σ:Names} {s:SS} {w:World} {K:XE→SS→Prop} {Q:Exit→Act→World→Prop}

theorem Ok.put_ (hok:Ok P σ s w) (d:Option Nat) (v:SV):Ok P σ (put d v s) w:=by
 cases d with
 |none=>exact hok
 |some d=>exact⟨⟨hok.lt,hok.ne,hok.blk,hok.marks,hok.rnd⟩,⟨hok.cold.there,hok.cold.apart⟩⟩
theorem Step.put_ {σ':Names} {s':SS} {w':World} (h:Step σ s w σ' s' w') (d:Option Nat) (v:SV):Step σ s w σ' (put d v s') w':=by
 cases d with
 |none=>exact h
 |some d=>exact⟨h.size,h.os,h.tape,h.output,h.far,h.len,h.names,h.red,h.own,h.rd⟩
theorem qP {σ':Names} {s':SS} {w':World} (hok:Ok P σ s w) (hok':Ok P σ' s' w') (hst:Step σ s w σ' s' w'):rOf σ' s'=rOf σ s:=by
 unfold rOf;rw[hst.rd];cases hr:s.rd with
 |none=>rfl
 |some l=>
  obtain⟨_,B,hB,_⟩:=hok.rnd l hr;obtain⟨h1,_⟩:=hok'.rnd l (by rw[hst.rd,hr]);simp only[Option.bind_some];rw[hst.names l (List.getElem?_eq_some_iff.1 hB).1 h1]

def Lands (P:Program) (σ:Names) (s:SS) (w:World) (K:XE→SS→Prop) (Q:Exit→Act→World→Prop):Prop:=
 ∀e' e σ' s' a w',K e' s'→Ok P σ' s' w'→Step σ s w σ' s' w'→qg σ' s' a e' e→Q e a w'
theorem Lands.post:Lands P σ s w K (kP P σ s w K):=fun e' _ σ' s' _ _ hK hok hst he=>⟨e',σ',s',hK,hok,hst,he⟩
theorem Lands.later {σ':Names} {s':SS} {w':World} (h:Lands P σ s w K Q) (hst:Step σ s w σ' s' w'):Lands P σ' s' w' K Q:=
 fun e' e σ'' s'' a w'' hK hok hst' he=>h e' e σ'' s'' a w'' hK hok (hst.trans hst') he

theorem kdA {o:Oper} {y:Nat→Option Bool} (h:o.guard=none):Region.wanted o y=true:=by simp[Region.wanted,h]
theorem kbb {ops:Array Oper}:∀(l:List Oper) (i:Nat) (steps:List j3) (σ:Names) (s:SS) (w:World),(∀k,k<l.length→ops[i+k]?=l[k]?)→kd3 P ops l=some steps →
  qp std P steps s K→Ok P σ s w→Lands P σ s w K Q→wpOpsIn (FR P (rOf σ s)) 0 P ops Q (List.range' i l.length) (act σ s) w
 |[],i,steps,σ,s,w,_,hc,h,hok,hQ=>by
  simp only[kd3,Option.some.injEq] at hc;subst hc
  exact hQ .normal .normal σ s _ w h hok (Step.refl σ s w) rfl
 | o::l,i,steps,σ,s,w,hops,hc,h,hok,hQ=>by
  simp only[kd3] at hc;split at hc
  rotate_left
  ·cases hc
  rename_i st ss hst hss;simp only[Option.some.injEq] at hc;subst hc
  unfold ke8 at hst;split at hst
  rotate_left
  ·cases hst
  rename_i x g hx hg;split at hst
  rotate_left
  ·cases hst
  rename_i hog;simp only[Option.some.injEq] at hst;subst hst
  have ho:ops[i]?=some o:=by simpa using hops 0 (by simp)
  have hrest:∀k,k<l.length→ops[i+1+k]?=l[k]?:=fun k hk=>by
   have:=hops (k+1) (by simp;omega);rw[List.getElem?_cons_succ] at this;rw[←this];congr 1;omega
  simp only[List.length_cons,List.range'_succ,wpOpsIn,ho];simp only[qp] at h;rcases qu (σ:=σ) hg h with⟨hw,h⟩|⟨hw,h⟩
  ·rw[if_pos hw];refine kg3 hok hx h (fun v σ' s' w' hK hok' hst hact=>?_) (fun v σ' s' w' hK hok' hst hact=>?_)
   ·simp only[kdP] at hK;have:=kbb l (i+1) ss σ' (put o.dst v s') w' hrest hss hK (hok'.put_ _ _) (hQ.later (hst.put_ _ _))
    rwa [qP hok (hok'.put_ o.dst v) (hst.put_ _ _)] at this
   ·exact hQ (.panic v) _ σ' s' _ w' hK hok' hst ⟨rfl,by rw[hact]⟩
  ·rw[if_neg (by rw[hw];simp)];obtain⟨h,hsk⟩:=kaN h;refine⟨kdz hg (by intro h0;rw[kdA h0] at hw;cases hw) hog hx hsk,?_⟩
   have:=kbb l (i+1) ss σ (put o.dst .undef s) w hrest hss h (hok.put_ _ _) (hQ.later ((Step.refl σ s w).put_ _ _));rw[qP hok (hok.put_ o.dst .undef) ((Step.refl σ s w).put_ _ _)] at this;rw[←j5] at this;exact this
theorem kg4 {c:Operand} {c':XO} {A B:Unit→Prop} (hc:cO c=some c') (h:ka1 (ev s c') A B):∃t,(act σ s).eval c=.bool t∧(if t then A () else B ()):=by
 cases hv:ev s c'<;>simp only[hv,ka1] at h
 rename_i t;refine⟨t,by rw[ke hc,hv];rfl,?_⟩
 cases t<;>exact h
theorem kg5 (t:XT) (b:XC):ofT t=.loop b↔False:=by unfold ofT;split<;>simp
theorem kfj (t:XT) (f:XO) (ps:List Nat) (a b:XC):ofT t=.range f ps a b↔False:=by unfold ofT;split<;>simp
theorem kaO {o:Option XC} {x:XC} (h:kji o=some x):x=.bad∨o=some x:=by
 unfold kji at h;split at h
 ·exact .inr h
 ·simp only[Option.some.injEq] at h;exact .inl h.symm
def kjo (P:Program):Prop:=∀(id:Nat) (ops:Array Oper) (x:XC) (σ:Names) (s:SS) (w:World) (K:XE→SS→Prop) (Q:Exit→Act→World→Prop),
 kt P (.region id ops true)=some x→ex std P x s K→Ok P σ s w→Lands P σ s w K Q→(Code.region id ops true).wpIn (FR P (rOf σ s)) 0 P Q (act σ s) w
theorem jH {P:Program} {b:Frame} {a:Act} {k:List Item} {cs:List Frame} {w:World} {c:Code}:step P (lone (b.atR a (.code (.scope c)::k)) cs w)=.next (lone (b.atR a (.code c::.inScope c::k)) cs w):=
 step_lone_go (by simp[stepG,stepG.exec,Frame.atR])
theorem ker {P:Program} {b:Frame} {a:Act} {k:List Item} {cs:List Frame} {w:World} {c:Code}:step P (lone (b.atR a (.inScope c::k)) cs w)=.next (lone (b.atR a k) cs w):=
 step_lone_go (by simp[stepG,stepG.exec,Frame.atR])
theorem kiK {F:Fence} {n:Nat} {P:Program} {Q:Exit→Act→World→Prop} {a:Act} {w:World} {c:Code}
  (h:c.wpIn F n P (fun e a w=>(∀l,e≠.goto l)∧Q e a w) a w):(Code.scope c).wpIn F n P Q a w:=by
 intro b k cs hro hb hr;have h0:(lone (b.atR a (.code (.scope c)::k)) cs w).fenced P F:=fenced_calm hb hr rfl;obtain⟨e,a₁,w₁,⟨hg,hq⟩,harr⟩:=h b (.inScope c::k) cs hro hb hr;cases e with
 |normal=>exact⟨.normal,a₁,w₁,hq,.head h0 jH (StepsIn.trans harr (.one (fenced_calm hb hr rfl) ker))⟩
 | exit id=>
  have hx:exitTo id (.inScope c::k)=exitTo id k:=by simp[exitTo]
  exact⟨.exit id,a₁,w₁,hq,fun k' hk=>.head h0 jH (harr.1 k' (by rw[hx];exact hk)),
   fun hr' hk=>let ⟨k₁,h1,h2⟩:=harr.2 hr' (by rw[hx];exact hk);⟨k₁,h1,.head h0 jH h2⟩⟩
 |goto l=>exact absurd rfl (hg l)
 |ret=>exact⟨_,a₁,w₁,hq,.of_steps (.one h0 jH) harr⟩
 |panic ch=>exact⟨_,a₁,w₁,hq,.of_steps (.one h0 jH) harr⟩
 |outgrown=>exact⟨_,a₁,w₁,hq,.of_steps (.one h0 jH) harr⟩
theorem kbc (hdraw:kjo P):∀(c:Code) (x:XC) (σ:Names) (s:SS) (w:World) (K:XE→SS→Prop) (Q:Exit→Act→World→Prop),kt P c=some x→ex std P x s K→Ok P σ s w→Lands P σ s w K Q →
  c.wpIn (FR P (rOf σ s)) 0 P Q (act σ s) w:=by
 intro c;induction c with
 |skip=>
  intro x σ s w K Q hc h hok hQ;simp only[kt,Option.some.injEq] at hc;subst hc
  exact wpIn_skip (hQ .normal .normal σ s _ w h hok (Step.refl σ s w) rfl)
 | region id ops draw=>
  intro x σ s w K Q hc h hok hQ;cases draw with
  |true=>exact hdraw id ops x σ s w K Q hc h hok hQ
  |false=>
   simp only[kt] at hc;rcases kaO hc with rfl|hc
   ·exact h.elim
   simp only[Option.map_eq_some_iff] at hc;obtain⟨steps,hs,rfl⟩:=hc;refine wpIn_region ?_
   have:=kbb (Q:=Q) ops.toList 0 steps σ s w (fun k hk=>by simp) hs h hok hQ;rw[List.range_eq_range'];simpa using this
 | seq a b iha ihb=>
  intro x σ s w K Q hc h hok hQ;simp only[kt] at hc;split at hc
  rotate_left
  ·cases hc
  rename_i xa xb ha hb;simp only[Option.some.injEq] at hc;subst hc
  simp only[ex] at h;refine wpIn_seq (iha xa σ s w _ _ ha h hok (fun e' e σ' s' a' w' hK hok' hst he=>?_))
  cases e'<;>cases e<;>simp only[qg] at he<;>simp only[koy] at hK
  ·subst he;have:=ihb xb σ' s' w' K Q hb hK hok' (hQ.later hst)
   rwa [qP hok hok' hst] at this
  ·exact hQ _ _ σ' s' _ w' hK hok' hst he
  ·exact hQ _ _ σ' s' _ w' hK hok' hst he
  ·exact hQ _ _ σ' s' _ w' hK hok' hst he
 |cond c a b iha ihb=>
  intro x σ s w K Q hc h hok hQ;simp only[kt] at hc;split at hc
  rotate_left
  ·simp only[Option.some.injEq] at hc;subst hc;exact h.elim
  rename_i c' hcc;split at hc
  rotate_left
  ·cases hc
  rename_i xa xb ha hb;simp only[Option.some.injEq] at hc;subst hc
  simp only[ex] at h;obtain⟨t,ht,h⟩:=kg4 (σ:=σ) hcc h;refine wpIn_cond ht ?_
  cases t
  ·exact ihb xb σ s w K Q hb h hok hQ
  ·exact iha xa σ s w K Q ha h hok hQ
 | block id b ih=>
  intro x σ s w K Q hc h hok hQ;simp only[kt,Option.map_eq_some_iff] at hc;obtain⟨xb,hb,rfl⟩:=hc;simp only[ex] at h;refine wpIn_block (ih xb σ s w _ _ hb h hok (fun e' e σ' s' a' w' hK hok' hst he=>?_))
  cases e'<;>cases e<;>simp only[qg] at he<;>simp only[kiw] at hK
  ·exact hQ .normal .normal σ' s' _ w' hK hok' hst he
  ·rename_i i j;obtain⟨rfl,he⟩:=he;simp only[Exit.inBlock];simp only[beq_iff_eq] at hK;split
   ·rename_i hi;rw[if_pos hi] at hK;exact hQ .normal .normal σ' s' _ w' hK hok' hst he
   ·rename_i hi;rw[if_neg hi] at hK;exact hQ (.exit i) (.exit i) σ' s' _ w' hK hok' hst ⟨rfl,he⟩
  ·exact hQ .ret .ret σ' s' _ w' hK hok' hst he
  ·exact hQ _ _ σ' s' _ w' hK hok' hst he
 |loop b ih=>
  intro x σ s w K Q hc h hok hQ;have hc':=hc;simp only[kt,Option.map_eq_some_iff] at hc;obtain⟨xb,hb,rfl⟩:=hc;simp only[ex] at h;refine wpIn_mono (h.out _ hc' σ w hok) (fun e a w' hp=>?_)
  obtain⟨e',σ',s',hK,hok',hst,he⟩:=hp;exact hQ e' e σ' s' a w' hK hok' hst he
 |rangeFunc f ps a b iha ihb=>
  intro x σ s w K Q hc h hok hQ;have hc':=hc;simp only[kt] at hc;split at hc
  rotate_left
  ·simp only[Option.some.injEq] at hc;subst hc;exact h.elim
  split at hc
  rotate_left
  ·cases hc
  simp only[Option.some.injEq] at hc;subst hc
  simp only[ex] at h;refine wpIn_mono (h.out _ hc' σ w hok) (fun e a w' hp=>?_)
  obtain⟨e',σ',s',hK,hok',hst,he⟩:=hp;exact hQ e' e σ' s' a w' hK hok' hst he
 |exit id=>
  intro x σ s w K Q hc h hok hQ;simp only[kt,Option.some.injEq] at hc;subst hc
  exact wpIn_exit (hQ (.exit id) (.exit id) σ s _ w h hok (Step.refl σ s w) ⟨rfl,rfl⟩)
 |ret=>
  intro x σ s w K Q hc h hok hQ;simp only[kt,Option.some.injEq] at hc;subst hc
  exact wpIn_ret (hQ .ret .ret σ s _ w h hok (Step.refl σ s w) rfl)
 |label l=>
  intro x σ s w K Q hc h hok hQ;simp only[kt,Option.some.injEq] at hc;subst hc
  exact wpIn_label (hQ .normal .normal σ s _ w h hok (Step.refl σ s w) rfl)
 |scope b ih=>
  intro x σ s w K Q hc h hok hQ;simp only[kt,Option.map_eq_some_iff] at hc;obtain⟨xb,hb,rfl⟩:=hc;simp only[ex] at h;refine kiK (ih xb σ s w K _ hb h hok (fun e' e σ' s' a' w' hK hok' hst he=>⟨fun l hl=>?_,hQ e' e σ' s' a' w' hK hok' hst he⟩))
  subst hl;cases e'<;>exact he
 |goto l=>intro x σ s w K Q hc h;simp only[kt,Option.some.injEq] at hc;subst hc;exact h.elim
 |refuse y=>intro x σ s w K Q hc h;simp only[kt,Option.some.injEq] at hc;subst hc;exact h.elim
end
end Go.Sx
namespace Go.Sx
open Go
section
variable {P:Program} {ops:Array Oper} {Q:Exit→Act→World→Prop} {r:Option Nat}

theorem kkn {o:Oper} {x:XOp} (h:cOp P o=some x):(∀c,o.op≠.defer c)∧(∀cs b,o.op≠.select cs b):=by
 constructor
 ·intro c hc;unfold cOp kao kaq kjY at h;simp[hc] at h
 ·intro cs b hc;unfold cOp kao kaq kjY at h;simp[hc] at h
def Hold (P:Program) (ops:Array Oper) (pv:Nat×Value) (a:Act) (w:World):Prop:=
 ∀o,ops[pv.1]?=some o→Region.wanted o (yielded ops a.tmps)=true→(execOp a.eval o).run P w=.ok (.value pv.2) w
def wpL (P:Program) (r:Option Nat) (ops:Array Oper) (Q:Exit→Act→World→Prop):Nat→List (Nat×Value)→Array Bool→Act→World→Prop
 |0,_,listed,a,w=>Region.ready .any ops listed=[]∧Q .normal a w
 | f+1,L,listed,a,w=>(Region.ready .any ops listed=[]→Q .normal a w) ∧
  ∀j∈Region.ready .any ops listed,wpOpIn (FR P r) 0 P ops Q j (fun a' w'=>(∀p∈L,waits ops j p.1=false→Hold P ops p a' w') ∧
   wpL P r ops Q f (L.filter fun p=>!waits ops j p.1) (listed.setIfInBounds j true) a' w') a w
theorem kjp:∀(f:Nat) (L:List (Nat×Value)) (listed:Array Bool) (a:Act) (w:World),wpL P r ops Q f L listed a w→wpAnyIn (FR P r) 0 P .any ops Q f listed a w
 |0,_,_,_,_,h=>h
 |f+1,_,_,_,_,h=>⟨h.1,fun j hj=>wpOpIn_mono (fun a' w' h'=>kjp f _ _ a' w' h'.2) (h.2 j hj)⟩
theorem kg6:∀(f:Nat) (L L':List (Nat×Value)) (listed:Array Bool) (a:Act) (w:World),(∀p,p∈L'→p∈L)→wpL P r ops Q f L listed a w→wpL P r ops Q f L' listed a w
 |0,_,_,_,_,_,_,h=>h
 | f+1,L,L',_,_,_,hs,h=>⟨h.1,fun j hj=>wpOpIn_mono (fun a' w' h'=>⟨fun p hp hn=>h'.1 p (hs p hp) hn,kg6 f _ _ _ a' w' (fun p hp=>by
   simp only[List.mem_filter] at hp ⊢;exact⟨hs p hp.1,hp.2⟩) h'.2⟩) (h.2 j hj)⟩
def Same (ops:Array Oper) (oi:Oper) (a a':Act):Prop:=execOp a'.eval oi=execOp a.eval oi∧Region.wanted oi (yielded ops a'.tmps)=Region.wanted oi (yielded ops a.tmps)
theorem kg7 {j:Nat} {oi oj:Oper} {v:Value} {K:Act→World→Prop} {a:Act} {w:World} (hj:ops[j]?=some oj) (hap:oi.apart ops oj=true) (hdj:∀c,oj.op≠.defer c)
  (hsi:∀cs b,oi.op≠.select cs b) (hsj:∀cs b,oj.op≠.select cs b) (hQ:∀c a w,Q (.panic c) (a.put oi.dst v) w→Q (.panic c) a w)
  (h:wpOpIn (FR P r) 0 P ops Q j K (a.put oi.dst v) w):wpOpIn (FR P r) 0 P ops Q j (fun a' w'=>K (a'.put oi.dst v) w'∧Same ops oi a a') a w:=by
 obtain⟨h1,h2,h3⟩:=Oper.apart_spec hap;have keep:∀u,Same ops oi a (a.put oj.dst u):=fun u=>⟨execOp_put oi hsi a oj.dst u h3,wanted_put oi a oj.dst u h3⟩
 unfold wpOpIn at *
 simp only[hj] at *;rw[wanted_put oj a oi.dst v h1] at h;split
 ·rename_i hw;simp only[hw,if_true] at h;unfold Oper.wpIn at *
  refine⟨fun f hf=>h.1 f (by rw[about_put oj w a oi.dst v h1];exact hf),?_⟩
  have h:=h.2;rw[Oper.semAt_eq _ _ _ hdj,execOp_put oj hsj a oi.dst v h1] at h;rw[Oper.semAt_eq _ _ _ hdj];generalize (execOp a.eval oj).run P w=res at *;cases res with
  | ok x w'=>
   cases x<;>simp only[Oper.uponIn] at h ⊢
   case value u=>exact⟨by rw[←Act.put_comm a v u h2];exact h,keep u⟩
   case skip=>exact⟨by rw[←Act.put_comm a v undef h2];exact h,keep undef⟩
   case defer d=>
    refine⟨?_,?_⟩
    ·rw[←Act.put_comm _ v undef h2,←Act.put_defers];exact h
    ·exact⟨execOp_put oi hsi { a with defers:=d::a.defers } oj.dst undef h3,wanted_put oi { a with defers:=d::a.defers } oj.dst undef h3⟩
   case enter f args=>
    refine⟨h.1,CallsIn.mono h.2 fun e w'' he=>?_⟩
    cases e with
    |returned u=>exact⟨by rw[←Act.put_comm a v u h2];exact he,keep u⟩
    |panicked c=>exact hQ _ _ _ he
    |outgrown=>exact he
   case row row args=>exact⟨h.1,RowsIn.mono h.2 fun u w'' he=>⟨by rw[←Act.put_comm a v u h2];exact he,keep u⟩⟩
   case round l f tmps assign body=>
    refine⟨h.1,RoundIn.mono h.2 fun e w'' he=>?_⟩
    cases e with
    |returned u=>exact⟨by rw[←Act.put_comm a v u h2];exact he,keep u⟩
    |panicked c=>exact hQ _ _ _ he
    |outgrown=>exact he
  |halt x w'=>
   cases x<;>simp only[Oper.uponIn] at h ⊢
   case panic u=>exact hQ _ _ _ h
 ·rename_i hw;simp only[hw] at h;exact⟨fun f hf=>h.1 f (by rw[about_put oj w a oi.dst v h1];exact hf),by rw[←Act.put_comm a v undef h2];exact h.2,keep undef⟩
def Yld (P:Program) (ops:Array Oper) (oi:Oper) (v:Value) (a:Act) (w:World):Prop:=
 (Region.wanted oi (yielded ops a.tmps)=true∧(execOp a.eval oi).run P w=.ok (.value v) w)∨(Region.wanted oi (yielded ops a.tmps)=false∧v=undef)
theorem Yld.same {oi:Oper} {v:Value} {a a':Act} {w:World} (h:Yld P ops oi v a w) (hs:Same ops oi a a'):Yld P ops oi v a' w:=by
 unfold Yld at *
 rw[hs.1,hs.2];exact h
def keeps (ops:Array Oper) (oi:Oper) (p:Nat):Prop:=∀o,ops[p]?=some o→(∀d,oi.dst=some d→d∉o.looksAt ops)∧(∀cs b,o.op≠.select cs b)
theorem Hold.put_iff {oi:Oper} {pv:Nat×Value} {a:Act} {w:World} {v:Value} (hk:keeps ops oi pv.1):Hold P ops pv (a.put oi.dst v) w↔Hold P ops pv a w:=by
 unfold Hold;constructor
 ·intro h o ho hw;obtain⟨h1,h2⟩:=hk o ho;have:=h o ho (by rw[wanted_put o a oi.dst v h1];exact hw)
  rwa [execOp_put o h2 a oi.dst v h1] at this
 ·intro h o ho hw;obtain⟨h1,h2⟩:=hk o ho;rw[wanted_put o a oi.dst v h1] at hw;rw[execOp_put o h2 a oi.dst v h1];exact h o ho hw
theorem kko {i j:Nat} {listed:Array Bool} (hi:i∈Region.ready .any ops listed) (hj:j∈Region.ready .any ops listed):waits ops j i=false∧∀oj,ops[j]?=some oj→∀e∈oj.after,Region.binds .any e=true→e.on≠i:=by
 obtain⟨_,oj,hoj,hall⟩:=mem_ready.1 hj;have hnot:∀e∈oj.after,Region.binds .any e=true→e.on≠i:=fun e he hb heq=>by
  have h1:=hall e he hb;have h0:=(mem_ready.1 hi).1;rw[heq] at h1;rcases Nat.lt_or_ge i listed.size with h'|h'
  ·simp[h'] at h0 h1;rw[h0] at h1;cases h1
  ·simp[Array.getElem?_eq_none h'] at h1
 refine⟨?_,fun o ho=>by rw[hoj] at ho;cases ho;exact hnot⟩
 unfold waits;rw[hoj];simp only[Array.any_eq_false,Bool.and_eq_true,beq_iff_eq,not_and];intro k hk hb;exact hnot _ (Array.getElem_mem hk) hb
theorem kfk {i:Nat} {oi:Oper} {v:Value} (hall:∀(j:Nat) (o:Oper),ops[j]?=some o→(∀c,o.op≠.defer c)∧(∀cs b,o.op≠.select cs b)) (hi:ops[i]?=some oi)
  (hQ:∀c a w,Q (.panic c) (a.put oi.dst v) w→Q (.panic c) a w) (hab:∀c,oi.op=.call c→∃b,c.callee=.builtin b) :
  ∀(f:Nat) (L L2:List (Nat×Value)) (listed:Array Bool) (a:Act) (w:World),
   (∀j oj,ops[j]?=some oj→j≠i→listed.getD j true=false→(∀e∈oj.after,Region.binds .any e=true→e.on≠i)→oi.apart ops oj=true) →
   i∈Region.ready .any ops listed→(∀p∈L,keeps ops oi p.1)→(∀p,p∈L→p∈L2)→((∀w',Yld P ops oi v a w')∨(Yld P ops oi v a w∧(i,v)∈L2∧keeps ops oi i)) →
   (∀p∈L,Hold P ops p a w)→wpL P r ops Q f L2 (listed.setIfInBounds i true) (a.put oi.dst v) w→wpL P r ops Q (f+1) L listed a w:=by
 intro f
 -- at i itself
 have hself:∀(f:Nat) (L L2:List (Nat×Value)) (listed:Array Bool) (a:Act) (w:World),(∀p∈L,keeps ops oi p.1)→(∀p,p∈L→p∈L2)→Yld P ops oi v a w→(∀p∈L,Hold P ops p a w) →
   wpL P r ops Q f L2 (listed.setIfInBounds i true) (a.put oi.dst v) w →
   wpOpIn (FR P r) 0 P ops Q i (fun a' w'=>(∀p∈L,waits ops i p.1=false→Hold P ops p a' w')∧wpL P r ops Q f (L.filter fun p=>!waits ops i p.1) (listed.setIfInBounds i true) a' w') a w:=by
  intro f L L2 listed a w hk hs hy hH H;have post:(∀p∈L,waits ops i p.1=false→Hold P ops p (a.put oi.dst v) w)∧wpL P r ops Q f (L.filter fun p=>!waits ops i p.1) (listed.setIfInBounds i true) (a.put oi.dst v) w:=
   ⟨fun p hp _=>(Hold.put_iff (hk p hp)).2 (hH p hp),kg6 f L2 _ _ _ _ (fun p hp=>hs p (List.mem_filter.1 hp).1) H⟩
  unfold wpOpIn;simp only[hi];rcases hy with⟨hw,hv⟩|⟨hw,rfl⟩
  ·rw[if_pos hw];exact jX (.of (hall i oi hi).1 hab) (by rw[hv];exact post)
  ·rw[if_neg (by rw[hw];simp)];exact⟨fun f hf=>(by rw[kaM hab] at hf;cases hf),post⟩
 induction f with
 | zero=>
  intro L L2 listed a w hfree hr hk hs hy hH H;refine⟨fun h=>(by rw[h] at hr;cases hr),fun j hj=>?_⟩
  by_cases hji:j=i
  ·subst hji;exact hself 0 L L2 listed a w hk hs (hy.elim (fun h=>h w) (fun h=>h.1)) hH H
  ·have:=ready_mono hj hji;rw[H.1] at this;cases this
 | succ f ih=>
  intro L L2 listed a w hfree hr hk hs hy hH H;refine⟨fun h=>(by rw[h] at hr;cases hr),fun j hj=>?_⟩
  by_cases hji:j=i
  ·subst hji;exact hself (f+1) L L2 listed a w hk hs (hy.elim (fun h=>h w) (fun h=>h.1)) hH H
  ·have h1:=H.2 j (ready_mono hj hji);obtain⟨hjun,oj,hoj,_⟩:=mem_ready.1 hj;obtain⟨hnw,hnot⟩:=kko hr hj;have h2:=kg7 hoj (hfree j oj hoj hji hjun (hnot oj hoj)) (hall j oj hoj).1 (hall i oi hi).2 (hall j oj hoj).2 hQ h1;refine wpOpIn_mono (fun a' w' h3=>?_) h2
   obtain⟨⟨hH',hrest⟩,hsame⟩:=h3;have hHL:∀p∈L,waits ops j p.1=false→Hold P ops p a' w':=fun p hp hn=>(Hold.put_iff (hk p hp)).1 (hH' p (hs p hp) hn)
   refine⟨hHL,ih _ (L2.filter fun p=>!waits ops j p.1) _ a' w' ?_ (ready_mono hr (Ne.symm hji)) (fun p hp=>hk p (List.mem_filter.1 hp).1) ?_ ?_ (fun p hp=>?_) ?_⟩
   ·intro k ok hok hki hun hno;refine hfree k ok hok hki ?_ hno
    by_cases hjk:j=k
    ·subst hjk;exact hjun
    ·rw[getD_set_ne true hjk] at hun;exact hun
   ·intro p hp;simp only[List.mem_filter] at hp ⊢
    exact⟨hs p hp.1,hp.2⟩
   ·rcases hy with hy|⟨hy,hin,hkp⟩
    ·exact .inl fun w''=>(hy w'').same hsame
    ·refine .inr ⟨?_,by simp[List.mem_filter,hin,hnw],hkp⟩
     have hh:=hH' (i,v) hin hnw;rcases hy with⟨hw,_⟩|⟨hw,hv⟩
     ·have hw':Region.wanted oi (yielded ops a'.tmps)=true:=by rw[hsame.2];exact hw
      exact .inl ⟨hw',(Hold.put_iff hkp).1 hh oi hi hw'⟩
     ·exact .inr ⟨by rw[hsame.2];exact hw,hv⟩
   ·simp only[List.mem_filter] at hp;exact hHL p hp.1 (by simpa using hp.2)
   ·rw[Array.setIfInBounds_comm _ _ hji];exact hrest

variable {σ0:Names} {s0:SS} {w0:World} {K:XE→SS→Prop}
def Pend (P:Program) (ops:Array Oper) (pend:List Nat) (L:List (Nat×Value)) (a:Act) (w:World):Prop:=
 L.map (·.1)=pend∧∀p∈L,Hold P ops p a w∧∃o d,ops[p.1]?=some o∧o.dst=some d∧(d<a.tmps.size→a.tmps[d]?=some p.2)
theorem kbd {i:Nat} {oi:Oper} {pend:List Nat} (hall:∀(j:Nat) (o:Oper),ops[j]?=some o→(∀c,o.op≠.defer c)∧(∀cs b,o.op≠.select cs b)) (hi:ops[i]?=some oi)
  (h:kct ops i pend=true):∀p∈pend,keeps ops oi p∧∀o,ops[p]?=some o→∀d,oi.dst=some d→o.dst≠some d:=by
 intro p hp;simp only[kct,List.all_eq_true] at h;have:=h p hp;rw[hi] at this;constructor
 ·intro o ho;refine⟨fun d hd=>?_,(hall p o ho).2⟩
  rw[ho] at this;simp[hd] at this
  exact this.1
 ·intro o ho d hd;rw[ho] at this;simp[hd] at this
  exact this.2
theorem Pend.put {oi:Oper} {pend:List Nat} {L:List (Nat×Value)} {a:Act} {w:World} (hk:∀p∈pend,keeps ops oi p∧∀o,ops[p]?=some o→∀d,oi.dst=some d→o.dst≠some d)
  (h:Pend P ops pend L a w) (v:Value):Pend P ops pend L (a.put oi.dst v) w:=by
 refine⟨h.1,fun p hp=>?_⟩
 obtain⟨h1,o,d,ho,hd,hs⟩:=h.2 p hp;have hk:=hk p.1 (by rw[←h.1];exact List.mem_map_of_mem hp);refine⟨(Hold.put_iff hk.1).2 h1,o,d,ho,hd,fun hlt=>?_⟩
 cases hi:oi.dst with
 |none=>rw[hi] at hlt;exact hs hlt
 |some e=>
  have hne:e≠d:=fun he=>hk.2 o ho e hi (by rw[he];exact hd)
  rw[hi] at hlt;simp only[Act.put,Array.size_setIfInBounds] at hlt ⊢
  rw[Array.getElem?_setIfInBounds_ne hne];exact hs hlt
theorem Pend.filter {pend:List Nat} {L:List (Nat×Value)} {a:Act} {w:World} (h:Pend P ops pend L a w) (f:Nat→Bool):Pend P ops (pend.filter f) (L.filter fun p=>f p.1) a w:=by
 refine⟨?_,fun p hp=>h.2 p (List.mem_filter.1 hp).1⟩
 rw[←h.1,List.filter_map];rfl
theorem klG {σ:Names} {s:SS} {d:Nat} {v:Value} (hlt:ltB d s.t.length=true) (h:d<(act σ s).tmps.size→(act σ s).tmps[d]?=some v):den σ (s.t.getD d .undef)=v:=by
 have hlt:d<s.t.length:=by simpa [ltB] using hlt
 have h1:=h (by simp[act,jC,hlt]);simp only[act,List.getElem?_toArray,jq,List.getElem?_eq_getElem hlt,Option.map_some,Option.some.injEq] at h1;simpa [List.getD,List.getElem?_eq_getElem hlt] using h1
theorem kfl {σ:Names} {s:SS} {w:World} {C:Prop} (hok:Ok P σ s w):∀(pend:List Nat) (cs:List (XOp×Nat×Option (Nat×Bool))) (L:List (Nat×Value)),kgH P ops pend=some cs→kdP std s cs C →
  L.map (·.1)=pend→(∀p∈L,∃o d,ops[p.1]?=some o∧o.dst=some d∧(d<(act σ s).tmps.size→(act σ s).tmps[d]?=some p.2))→C∧∀p∈L,Hold P ops p (act σ s) w
 |[],cs,L,hc,h,hL,_=>by
  simp only[kgH,Option.some.injEq] at hc;subst hc
  have:L=[]:=by simpa using hL
  subst this;exact⟨h,fun p hp=>by cases hp⟩
 | q :: pend,cs,L,hc,h,hL,hs=>by
  cases L with
  |nil=>simp at hL
  | cons p L=>
   simp only[List.map_cons,List.cons.injEq] at hL;obtain⟨rfl,hL⟩:=hL;simp only[kgH] at hc;split at hc
   rotate_left
   ·cases hc
   rename_i o ho;split at hc
   rotate_left
   ·cases hc
   rename_i x d g cs' hx hd hg hcs;simp only[Option.some.injEq] at hc;subst hc
   simp only[kdP] at h;split at h
   rotate_left
   ·exact h.elim
   rename_i hlt;obtain⟨h1,h2⟩:=h;obtain⟨hC,hrest⟩:=kfl hok pend cs' L hcs h2 hL fun p hp=>hs p (List.mem_cons_of_mem _ hp)
   refine⟨hC,fun p' hp'=>?_⟩
   rcases List.mem_cons.1 hp' with rfl|hp'
   ·intro o' ho' hw;rw[ho] at ho';cases ho'
    obtain⟨o',d',ho',hd',hsl⟩:=hs p' (List.mem_cons_self ..);rw[ho] at ho';cases ho'
    rw[hd] at hd';cases hd'
    rcases qu (σ:=σ) hg h1 with⟨_,hA⟩|⟨hw',_⟩
    ·obtain⟨v,hv,hr⟩:=kb5 hok hx hA;rw[hr,hv,klG hlt hsl]
    ·rw[hw] at hw';cases hw'
   ·exact hrest p' hp'
theorem kfm {f:Nat→Option XT} {j:Nat} {s:SS} {K:XE→SS→Prop}:∀{l:List Nat} {t:XT},kjh f l=some t→j∈l→exT std P t s K→∃t',f j=some t'∧exT std P t' s K
 |[],_,h,_,_=>by cases h
 |[i],t,h,hj,hx=>by
  obtain rfl:j=i:=by simpa using hj
  exact⟨t,h,hx⟩
 |i::k::l,t,h,hj,hx=>by
  unfold kjh at h;split at h
  rotate_left
  ·cases h
  rename_i a b ha hb;simp only[Option.some.injEq] at h;subst h;rcases List.mem_cons.1 hj with rfl|hj
  ·exact⟨a,ha,hx.1⟩
  ·exact kfm hb hj hx.2
theorem kg8 {K:XE→SS→Prop}:∀{t:XT} {l:List j3},kgI t=some l→∀s,qp std P l s K=exT std P t s K
 |.fin,l,h,s=>by
  simp only[kgI,Option.some.injEq] at h;subst h
  rfl
 |.step st t,l,h,s=>by
  simp only[kgI] at h;split at h
  rotate_left
  ·cases h
  rename_i l' hl;simp only[Option.some.injEq] at h;subst h
  simp only[qp,exT,kg8 hl]
 |.both a b,l,h,s=>by cases h
theorem kn2 {t:XT} {s:SS} {K:XE→SS→Prop} (h:ex std P (ofT t) s K):exT std P t s K:=by
 unfold ofT at h;split at h
 ·rename_i l hl;rw[←kg8 hl s];exact h
 ·exact h
theorem kkp (hall:∀(j:Nat) (o:Oper),ops[j]?=some o→(∀c,o.op≠.defer c)∧(∀cs b,o.op≠.select cs b)):∀(fuel:Nat) (listed:Array Bool) (pend:List Nat) (steps:XT)
  (σ:Names) (s:SS) (w:World) (L:List (Nat×Value)),kjZ P ops fuel listed pend=some steps→exT std P steps s K→Ok P σ s w →
  Step σ0 s0 w0 σ s w→Pend P ops pend L (act σ s) w→wpL P (rOf σ s) ops (kP P σ0 s0 w0 K) fuel L listed (act σ s) w:=by
 intro fuel;have hQ:∀(oi:Oper) (v:Value) c a w,kP P σ0 s0 w0 K (.panic c) (a.put oi.dst v) w→kP P σ0 s0 w0 K (.panic c) a w:=by
  rintro oi v c a w ⟨e',σ',s',h1,h2,h3,h4⟩;refine⟨e',σ',s',h1,h2,h3,?_⟩
  cases e'<;>simp only[qg] at h4 ⊢
  have hd:(a.put oi.dst v).defers=a.defers:=by cases oi.dst<;>rfl
  rw[hd] at h4;exact h4
 induction fuel with
 | zero=>
  intro listed pend steps σ s w L hl h hok hst hp;simp only[kjZ] at hl;split at hl
  ·rename_i hr;simp only[Option.some.injEq] at hl;subst hl
   exact⟨by simpa using hr,.normal,σ,s,h,hok,hst,rfl⟩
  ·cases hl
 | succ fuel ih=>
  intro listed pend steps σ s w L hl h hok hst hp;simp only[kjZ] at hl;split at hl
  ·rename_i hr;simp only[Option.some.injEq] at hl;subst hl
   have hr:Region.ready .any ops listed=[]:=by simpa using hr
   exact⟨fun _=>⟨.normal,σ,s,h,hok,hst,rfl⟩,fun j hj=>by rw[hr] at hj;cases hj⟩
  rename_i hrne;split at hl
  ·-- taken first
   rename_i i hf;split at hl
   rotate_left
   ·cases hl
   rename_i oi hi;split at hl
   rotate_left
   ·cases hl
   rename_i st ss hs hss;simp only[Option.some.injEq] at hl;subst hl
   have hmem:=List.mem_of_find?_eq_some hf;have hprop:=List.find?_some hf;simp only[Bool.and_eq_true,Bool.or_eq_true] at hprop;obtain⟨⟨hpl,hfree⟩,hap⟩:=hprop;have hk:=kbd hall hi hap;have hkL:∀p∈L,keeps ops oi p.1:=fun p hp'=>(hk p.1 (by rw[←hp.1];exact List.mem_map_of_mem hp')).1
   unfold ke8 at hs;split at hs
   rotate_left
   ·cases hs
   rename_i x g hx hg;split at hs
   rotate_left
   ·cases hs
   rename_i hog;simp only[Option.some.injEq] at hs;subst hs
   simp only[exT] at h;have hr':∀v,rOf σ (put oi.dst v s)=rOf σ s:=fun v=>qP hok (hok.put_ _ _) ((Step.refl σ s w).put_ _ _)
   have hab:∀c,oi.op=.call c→∃b,c.callee=.builtin b:=by
    rcases hpl with hpl|hpl
    ·unfold kd4 at hpl;rw[hi] at hpl;obtain⟨y,hy⟩:=Option.isSome_iff_exists.1 hpl;exact kfh hy
    ·unfold kf4 at hpl;rw[hi] at hpl;simp only[Bool.and_eq_true] at hpl;obtain⟨y,hy⟩:=Option.isSome_iff_exists.1 hpl.1.2;exact kfi hy
   by_cases hpure:kd4 P ops i=true
   ·rw[if_pos hpure] at hss;have key:∀v,(∀w',Yld P ops oi (den σ v) (act σ s) w')→exT std P ss (put oi.dst v s) K→wpL P (rOf σ s) ops (kP P σ0 s0 w0 K) (fuel+1) L listed (act σ s) w:=by
     intro v hy hex;refine kfk hall hi (hQ oi (den σ v)) hab fuel L L listed (act σ s) w (Region.free_spec hi hfree) hmem hkL (fun _ h=>h) (.inl hy) (fun p hp'=>(hp.2 p hp').1) ?_
     have:=ih _ pend ss σ (put oi.dst v s) w L hss hex (hok.put_ _ _) (hst.put_ _ _) (by have:=hp.put hk (den σ v);rwa [j5] at this);rw[hr',←j5] at this;exact this
    unfold kd4 at hpure;rw[hi] at hpure;obtain⟨y,hy⟩:=Option.isSome_iff_exists.1 hpure;have hxy:x=y:=by unfold cOp at hx;rw[hy] at hx;simpa using hx.symm
    subst hxy;have hcl:cls x=.pure:=by
     unfold kao at hy;(repeat' split at hy)<;>first|(cases hy;done)|(cases hy;rfl)|(simp only[Option.map_eq_some_iff] at hy;obtain⟨_,_,rfl⟩:=hy;rfl)
    rcases qu (σ:=σ) hg h with⟨hw,h⟩|⟨hw,h⟩
    ·simp only[kd6,hcl,kdP] at h;obtain⟨v,hKv,hr⟩:=kec hok hy h;exact key v (fun w'=>.inl ⟨hw,hr w'⟩) hKv
    ·exact key .undef (fun w'=>.inr ⟨hw,rfl⟩) (kaN h).1
   ·rw [if_neg hpure] at hss
    have hload:kf4 P ops i=true:=hpl.resolve_left hpure;unfold kf4 at hload;rw[hi] at hload;simp only[Bool.and_eq_true] at hload;obtain⟨⟨hn,hl⟩,hd⟩:=hload;obtain⟨y,hy⟩:=Option.isSome_iff_exists.1 hl;have hxy:x=y:=by
     unfold cOp at hx;rw[Option.isNone_iff_eq_none.1 hn,hy] at hx;simpa using hx.symm
    subst hxy;split at hd
    rotate_left
    ·cases hd
    rename_i d hd';have hself:keeps ops oi i:=fun o ho=>by
     rw[hi] at ho;cases ho
     refine⟨fun e he=>?_,(hall i oi hi).2⟩
     rw[hd'] at he;cases he
     simpa using hd
    have hcl:cls x=.load:=by
     unfold kaq at hy;(repeat' split at hy)<;>first|(cases hy;done)|(cases hy;rfl)
    have key:∀v,Yld P ops oi (den σ v) (act σ s) w→exT std P ss (put oi.dst v s) K→wpL P (rOf σ s) ops (kP P σ0 s0 w0 K) (fuel+1) L listed (act σ s) w:=by
     intro v hy hex;refine kfk hall hi (hQ oi (den σ v)) hab fuel L ((i,den σ v)::L) listed (act σ s) w (Region.free_spec hi hfree) hmem hkL (fun _ h=>List.mem_cons_of_mem _ h) (.inr ⟨hy,List.mem_cons_self ..,hself⟩)
      (fun p hp'=>(hp.2 p hp').1) ?_
     have:=ih _ (i::pend) ss σ (put oi.dst v s) w ((i,den σ v)::L) hss hex (hok.put_ _ _) (hst.put_ _ _) (by
      have hp':=hp.put hk (den σ v);have hpp:Pend P ops (i::pend) ((i,den σ v)::L) ((act σ s).put oi.dst (den σ v)) w:=?_
      ·rwa [j5] at hpp
      refine⟨by simp[hp.1],fun p hpm=>?_⟩
      rcases List.mem_cons.1 hpm with rfl|hpm
      ·refine⟨(Hold.put_iff hself).2 ?_,oi,d,hi,hd',fun hlt=>?_⟩
       ·intro o ho hw;rw[hi] at ho;cases ho
        rcases hy with⟨_,hr⟩|⟨hw',_⟩
        ·exact hr
        ·rw[hw] at hw';cases hw'
       ·rw[hd'] at hlt ⊢
        simp only[Act.put,Array.size_setIfInBounds] at hlt ⊢
        simp[hlt]
      ·exact hp'.2 p hpm)
     rw[hr',←j5] at this;exact this
    rcases qu (σ:=σ) hg h with⟨hw,h⟩|⟨hw,h⟩
    ·simp only[kd6,hcl,kdP] at h;obtain⟨v,hKv,hr⟩:=kb5 hok hy h;exact key v (.inl ⟨hw,hr⟩) hKv
    ·exact key .undef (.inr ⟨hw,rfl⟩) (kaN h).1
  ·-- comes up alone, or two at a time
   split at hl
   ·cases hl
   refine⟨fun he=>(by rw[he] at hrne;exact absurd rfl hrne),fun j hj=>?_⟩
   obtain⟨t',hl,h⟩:=kfm hl hj h;split at hl
   rotate_left
   ·cases hl
   rename_i oi hi;split at hl
   rotate_left
   ·cases hl
   rename_i hap;split at hl
   rotate_left
   ·cases hl
   rename_i st cs ss hs hcs hss;simp only[Option.some.injEq] at hl;subst hl
   have hk:=kbd hall hi hap;unfold ke8 at hs;split at hs
   rotate_left
   ·cases hs
   rename_i x g hx hg;split at hs
   rotate_left
   ·cases hs
   rename_i hog;simp only[Option.some.injEq] at hs;subst hs
   simp only[exT] at h;have hpf:=hp.filter (fun p=>!waits ops j p);unfold wpOpIn;simp only[hi];rcases qu (σ:=σ) hg h with⟨hw,h⟩|⟨hw,h⟩
   ·rw [if_pos hw]
    refine kg3 hok hx h (fun v σ' s' w' hK hok' hst' hact=>?_) (fun v σ' s' w' hK hok' hst' hact=>?_)
    ·have hok'':=hok'.put_ oi.dst v
     -- the slots are there
     have hslots:∀p∈L.filter (fun p=>!waits ops j p.1),∃o d,ops[p.1]?=some o∧o.dst=some d∧(d<(act σ' (put oi.dst v s')).tmps.size→(act σ' (put oi.dst v s')).tmps[d]?=some p.2):=by
      intro p hpm;obtain⟨_,o,d,ho,hd,hsl⟩:=hpf.2 p hpm;refine⟨o,d,ho,hd,fun hlt=>?_⟩
      have hkp:=hk p.1 (by rw[←hpf.1];exact List.mem_map_of_mem hpm);rw[←j5,hact] at hlt ⊢
      cases hid:oi.dst with
      |none=>rw[hid] at hlt;exact hsl hlt
      |some e=>
       have hne:e≠d:=fun he=>hkp.2 o ho e hid (by rw[he];exact hd)
       rw[hid] at hlt;simp only[Act.put,Array.size_setIfInBounds] at hlt ⊢
       rw[Array.getElem?_setIfInBounds_ne hne];exact hsl hlt
     obtain⟨hC,hHold⟩:=kfl hok'' _ cs _ hcs hK hpf.1 hslots;refine⟨fun p hpm hn=>hHold p (List.mem_filter.2 ⟨hpm,by simp[hn]⟩),?_⟩
     have:=ih _ _ ss σ' (put oi.dst v s') w' _ hss hC hok'' (hst.trans (hst'.put_ _ _)) ⟨hpf.1,fun p hpm=>⟨hHold p hpm,hslots p hpm⟩⟩
     rwa [qP hok hok'' (hst'.put_ _ _)] at this
    ·exact⟨.panic v,σ',s',hK,hok',hst.trans hst',rfl,by rw[hact]⟩
   ·rw[if_neg (by rw[hw];simp)];obtain⟨h,hsk⟩:=kaN h;refine⟨kdz hg (by intro h0;rw[kdA h0] at hw;cases hw) hog hx hsk,?_⟩
    have hp':=hpf.put hk undef;refine⟨fun p hpm hn=>(hp'.2 p (List.mem_filter.2 ⟨hpm,by simp[hn]⟩)).1,?_⟩
    have hact:=j5 σ s oi.dst .undef;simp only[den] at hact;have:=ih _ _ ss σ (put oi.dst .undef s) w _ hss h (hok.put_ _ _) (hst.put_ _ _) (by rw[←hact];exact hp');rw[qP hok (hok.put_ oi.dst .undef) ((Step.refl σ s w).put_ _ _),←hact] at this;exact this
theorem kg9 {σ:Names} {p:Option (Nat×Nat)} {w:World} (n:Nat):∀{B:SB},holds P σ p w B→holds P σ p { w with drawn:=n } B:=by
 intro B h;cases B<;>exact h
theorem Ok.drawn {σ:Names} {s:SS} {w:World} (h:Ok P σ s w) (n:Nat):Ok P σ s { w with drawn:=n }:=
 ⟨⟨h.lt,h.ne,fun i B hB=>kg9 n (h.blk i B hB),h.marks,h.rnd⟩,⟨h.cold.there,h.cold.apart⟩⟩
theorem Step.drawn (σ:Names) (s:SS) (w:World) (n:Nat):Step σ s w σ s { w with drawn:=n }:=
 have h:=Step.refl σ s w
 ⟨h.size,rfl,rfl,rfl,fun _ _ _=>rfl,h.len,h.names,h.red,h.own,h.rd⟩
theorem kbe (hm:P.follows .mixedOrders=true):kjo P:=by
 intro id ops x σ s w K Q hc h hok hQ;simp only[kt] at hc;rcases kaO hc with rfl|hc
 ·exact h.elim
 split at hc
 rotate_left
 ·cases hc
 rename_i hcomp;simp only[Option.map_eq_some_iff] at hc;obtain⟨steps,hs,rfl⟩:=hc;have h:=kn2 h;have hall:∀(j:Nat) (o:Oper),ops[j]?=some o→(∀c,o.op≠.defer c)∧(∀cs b,o.op≠.select cs b):=by
  intro j o ho;have:=Array.all_eq_true'.1 hcomp o (Array.mem_of_getElem? ho);obtain⟨x,hx⟩:=Option.isSome_iff_exists.1 this;exact kkn hx
 have hp:Pend P ops [] [] (act σ s) { w with drawn:=w.drawn+1 }:=⟨rfl,fun p hp=>by cases hp⟩;have:=kkp (K:=K) (σ0:=σ) (s0:=s) (w0:=w) hall ops.size (Array.replicate ops.size false) [] steps σ s { w with drawn:=w.drawn+1 } [] hs h (hok.drawn _) (Step.drawn σ s w _) hp;refine wpIn_mono (wpIn_region_any hm (kjp _ [] _ _ _ this)) (fun e a w' hp=>?_)
 obtain⟨e',σ',s',hK,hok',hst,he⟩:=hp;exact hQ e' e σ' s' a w' hK hok' hst he
end
end Go.Sx
namespace Go.Sx
open Go

def kbV:List Nat→List SB→List SB
 |[],h=>h
 |l::ds,h=>kbV ds (h.set l .free)
def kes:List Nat→Bool
 |[]=>true
 |l::ds=>if ka4 l ds then false else kes ds
def unm (s:SS):SS:={ s with h:=kbV s.d s.h,d:=[] }
def kha (P:Program):ResultVar→Option Nat
 |.tmp t=>if ltB t 1000000 then some t else none
 |.cell a t=>match kc2 P t,kG P t with
  |some true,some (n+1)=>if ltB a 1000000 then some (1000000*(2*n+4)+a) else none
  |some false,some _=>if ltB a 1000000 then some (1000000+a) else none
  |_,_=>none
def ket (P:Program):List ResultVar→Option (List Nat)
 |[]=>some []
 |v::l=>match kha P v,ket P l with
  |some t,some ts=>some (t::ts)
  |_,_=>none
def keu (s:SS) (q:Nat) (x:SV):Option SV:=
 match x with
 |.ptr b .z _ j=>match s.h[b]? with
  |some (.one _ row)=>if q==1 then row[j]? else if j+(q / 2-1)≤row.length then some (.agg ((row.drop j).take (q / 2-1))) else none
  |some (.ints _ k [n])=>if q==1&&j==0 then some (.int k n) else none
  |some (.ints _ k l)=>if q !=1&&j==0&&decide (q / 2-1≤l.length) then some (.agg ((l.take (q / 2-1)).map (.int k))) else none
  |_=>none
 |_=>none
def khb (s:SS) (r:Nat):SV:=if ltB r 1000000 then s.t.getD r .undef else(keu s (r / 1000000) (s.t.getD (r % 1000000) .undef)).getD .undef
def kcz (s:SS):List Nat→Bool
 |[]=>true
 |r::l=>if ltB r 1000000 then kcz s l else if (keu s (r / 1000000) (s.t.getD (r % 1000000) .undef)).isSome then kcz s l else false
def kkq (s:SS) (rs:List Nat):SV:=
 match rs with
 |[r]=>khb s r
 |rs=>.tup (rs.map fun r=>khb s r)
def kev (s:SS):Bool:=
 match s.x with
 |[]=>kes s.d
 |_::_=>false
theorem khc {s:SS} (h:kev s=true):kes s.d=true∧s.x=[]:=by
 unfold kev at h;split at h
 ·rename_i hx;exact⟨h,hx⟩
 ·cases h
def fin (rs:List Nat) (kP:SV→List SB→List Nat→Prop):XE→SS→Prop:=fun e s=>
 match e with
 |.normal=>if kev s&&kcz s rs then kP (kkq s rs) (kbV s.d s.h) s.r else False
 |.ret=>if kev s&&kcz s rs then kP (kkq s rs) (kbV s.d s.h) s.r else False
 |_=>False
abbrev small (H:List SB) (R:List Nat):SS:={ t:=[],h:=H,r:=R,d:=[],rd:=none }
def km0 (P:Program) (σ:Names) (H:List SB) (w:World) (kP:SV→List SB→List Nat→Prop):Ending→World→Prop:=fun e w'=>
 ∃σ' v H' R,kP v H' R∧e=.returned (den σ' v)∧Ok P σ' (small H' R) w'∧Step σ (small H []) w σ' (small H' R) w'
structure Con (P:Program) (f:Nat) (args:List SV) (H:List SB) (kP:SV→List SB→List Nat→Prop):Prop where
 go:∀(xs:Array Value) (w:World),(callFunc f xs).run P w=.ok (.enter f xs) w
 out:∀σ w,Ok P σ (small H []) w→CallsIn (FR P none) 0 P f (denL σ args).toArray w (km0 P σ H w kP)
structure FnOk (P:Program) (f:Nat) (x:XC) (n:Nat) (rs:List Nat):Prop where
 go:∀(xs:Array Value) (w:World),(callFunc f xs).run P w=.ok (.enter f xs) w
 has:∃fn c,P.funcs[f]?=some fn∧fn.body=some c∧kt P c=some x∧fn.ntmps=n∧ket P fn.results.toList=some rs

theorem FnOk.of {P:Program} {f:Nat} {x:XC} {n:Nat} {rs:List Nat} {fn:Func} (go:∀(xs:Array Value) (w:World),(callFunc f xs).run P w=.ok (.enter f xs) w) (hf:P.funcs[f]?=some fn)
  (hc:fn.body.bind (kt P)=some x) (hn:fn.ntmps=n) (hr:ket P fn.results.toList=some rs):FnOk P f x n rs:=by
 refine⟨go,?_⟩
 cases hb:fn.body with
 |none=>rw[hb] at hc;cases hc
 |some c=>rw[hb] at hc;exact⟨fn,c,hf,hb,hc,hn,hr⟩
section
variable {P:Program} {σ:Names} {s:SS} {w:World}
theorem khd (σ:Names) (t:List SV) (r:Nat):(denL σ t).toArray.getD r undef=den σ (t.getD r .undef):=by
 rw[Array.getD_eq_getD_getElem?,List.getElem?_toArray,jq,List.getD_eq_getElem?_getD];cases t[r]?<;>simp[den]
theorem kfn {b:Nat}:∀{ds:List Nat} {h:List SB},b∉ds→(kbV ds h)[b]?=h[b]?
 |[],h,_=>rfl
 |l::ds,h,hb=>by
  simp only[List.mem_cons,not_or] at hb;rw[kbV,kfn hb.2,List.getElem?_set,if_neg (Ne.symm hb.1)]
def kiL (tmps:Array Value):ResultVar→Sem Value
 |.tmp t=>pure (tmps.getD t undef)
 |.cell a t=>do loadVar t (←asAddr (tmps.getD a undef))
theorem kiM (fn:Func) (tmps:Array Value):results fn tmps=(do
  let vs ←fn.results.mapM (kiL tmps)
  pure (if h:vs.size=1 then vs[0] else .tuple vs)):=by
 have e:kiL tmps=(fun rv=>match rv with
   |.tmp t=>pure (tmps.getD t undef)
   |.cell a t=>do loadVar t (←asAddr (tmps.getD a undef))):=by
  funext v
  cases v<;>rfl
 rw[e];rfl
theorem kdB {q:Nat} {x v:SV} (hcell:∀(b:Nat) (B:SB),s.h[b]?=some B→B≠.defd→holds P σ (σ b) w B) (h:keu s q x=some v) :
  ∃a,den σ x=.pointer (some a)∧(q=1→w.cell? a=some (den σ v)) ∧
   (q≠1→∃cs,v=.agg cs∧(loadCells a (q / 2-1)).run P w=.ok (denL σ cs).toArray w):=by
 unfold keu at h;split at h
 rotate_left
 ·cases h
 rename_i b sz j;split at h
 ·rename_i t0 row hB;obtain⟨g,hσ,hh⟩:=hcell b _ hB (by simp);refine⟨⟨g,j,none⟩,by simp[den,hσ,ixN],fun hq=>?_,fun hq=>?_⟩
  ·subst hq;simp only[beq_self_eq_true,if_true] at h;rw[kj hh,List.getElem?_toArray,jq,h];rfl
  ·rw[if_neg (by simpa using hq)] at h;split at h
   rotate_left
   ·cases h
   rename_i hle;simp only[Option.some.injEq] at h;subst h;refine⟨_,rfl,?_⟩
   have hrun:(loadCells ⟨g,j,none⟩ (denL σ ((row.drop j).take (q / 2-1))).length).run P w=.ok (denL σ ((row.drop j).take (q / 2-1))).toArray w:=by
    refine run_loadCells_list w _ _ (fun k v hk=>?_)
    have hkl:k<q / 2-1:=by
     have:=(List.getElem?_eq_some_iff.1 hk).1;rw[jC,List.length_take,List.length_drop] at this;omega
    rw[jq,List.getElem?_take_of_lt hkl,List.getElem?_drop] at hk;rw[jN,kj hh,List.getElem?_toArray,jq];exact hk
   rw[jC,List.length_take,List.length_drop,show min (q / 2-1) (row.length-j)=q / 2-1 by omega] at hrun;exact hrun
 ·rename_i t0 k n hB;split at h
  rotate_left
  ·cases h
  rename_i hc;simp only[Bool.and_eq_true,beq_iff_eq] at hc;obtain⟨rfl,rfl⟩:=hc;simp only[Option.some.injEq] at h;subst h;obtain⟨g,hσ,hh⟩:=hcell b _ hB (by simp);refine⟨⟨g,0,none⟩,by simp[den,hσ,ixN],fun _=>?_,fun hq=>absurd rfl hq⟩
  rw[kj hh];rfl
 ·rename_i t0 k l hne hB;split at h
  rotate_left
  ·cases h
  rename_i hc;simp only[Bool.and_eq_true,bne_iff_ne,ne_eq,beq_iff_eq,decide_eq_true_eq] at hc;obtain⟨⟨hq1,rfl⟩,hle⟩:=hc;simp only[Option.some.injEq] at h;subst h;obtain⟨g,hσ,hh⟩:=hcell b _ hB (by simp);refine⟨⟨g,0,none⟩,by simp[den,hσ,ixN],fun hq=>absurd hq hq1,fun _=>⟨_,rfl,?_⟩⟩
  have hrun:(loadCells ⟨g,0,none⟩ (denL σ ((l.take (q / 2-1)).map (.int k))).length).run P w=.ok (denL σ ((l.take (q / 2-1)).map (.int k))).toArray w:=by
   refine run_loadCells_list w _ _ (fun i v hi=>?_)
   rw[jq,List.getElem?_map,Option.map_map] at hi;have hil:i<q / 2-1:=by
    rcases Nat.lt_or_ge i (q / 2-1) with h|h
    ·exact h
    ·rw[List.getElem?_eq_none (by rw[List.length_take];omega)] at hi;cases hi
   rw[List.getElem?_take_of_lt hil] at hi;rw[jN,kj hh,List.getElem?_toArray,List.getElem?_map,Nat.zero_add];exact hi
  rw[jC,List.length_map,List.length_take,Nat.min_eq_left hle] at hrun;exact hrun
 ·cases h
theorem klH {rv:ResultVar} {r:Nat} (hok:Ok P σ s w) {w':World} (hok':Ok P σ (unm s) w') (h:kha P rv=some r) (ho:r<1000000∨(keu s (r / 1000000) (s.t.getD (r % 1000000) .undef)).isSome=true) :
  (kiL (act σ s).tmps rv).run P w'=.ok (den σ (khb s r)) w':=by
 cases rv with
 | tmp t=>
  simp only[kha] at h;split at h
  ·rename_i hlt;simp only[Option.some.injEq] at h;subst h
   simp only[khb,if_pos hlt];have e:(act σ s).tmps.getD t undef=den σ (s.t.getD t .undef):=khd σ s.t t;simp only[kiL,e,Sem.run_pure]
  ·cases h
 | cell a t=>
  have hcell:∀(b:Nat) (B:SB),s.h[b]?=some B→B≠.defd→holds P σ (σ b) w' B:=fun b B hB hne=>by
   have hb:b∉s.d:=fun hd=>hne (by have:=(hok.marks b hd).2;rw[hB] at this;exact Option.some.inj this)
   exact hok'.blk b B (by show(kbV s.d s.h)[b]?=some B;rw[kfn hb];exact hB)
  have hta:(act σ s).tmps.getD a undef=den σ (s.t.getD a .undef):=khd σ s.t a;simp only[kha] at h;split at h
  ·rename_i n hag hn;split at h
   rotate_left
   ·cases h
   rename_i hlt;simp only[ltB,decide_eq_true_eq] at hlt;simp only[Option.some.injEq] at h;subst h
   have h9:∀a:Nat,a<1000000→(1000000*(2*n+4)+a) / 1000000=2*n+4∧(1000000*(2*n+4)+a) % 1000000=a∧¬(1000000*(2*n+4)+a<1000000):=by omega
   obtain⟨hq,hr,hnl⟩:=h9 a hlt;rw[hq,hr] at ho;obtain⟨v,hv⟩:=Option.isSome_iff_exists.1 (ho.resolve_left hnl);obtain⟨ad,h1,_,h2⟩:=kdB (P:=P) hcell hv;obtain⟨cs,rfl,h3⟩:=h2 (by omega);rw[show(2*n+4) / 2-1=n+1 by omega] at h3;simp only[khb,ltB,hnl,decide_false,Bool.false_eq_true,if_false,hq,hr,hv,Option.getD_some,kiL,hta,h1];simp[asAddr,loadVar,jR hag,kz hn,h3,den]
  ·rename_i m hag hm;split at h
   rotate_left
   ·cases h
   rename_i hlt;simp only[ltB,decide_eq_true_eq] at hlt;simp only[Option.some.injEq] at h;subst h
   have h9:∀a:Nat,a<1000000→(1000000+a) / 1000000=1∧(1000000+a) % 1000000=a∧¬(1000000+a<1000000):=by omega
   obtain⟨hq,hr,hnl⟩:=h9 a hlt;rw[hq,hr] at ho;obtain⟨v,hv⟩:=Option.isSome_iff_exists.1 (ho.resolve_left hnl);obtain⟨ad,h1,h2,_⟩:=kdB (P:=P) hcell hv;simp only[khb,ltB,hnl,decide_false,Bool.false_eq_true,if_false,hq,hr,hv,Option.getD_some,kiL,hta,h1];simp[asAddr,loadVar,jR hag,h2 rfl]
  ·cases h
theorem khe {fn:Func} {rs:List Nat} (hok:Ok P σ s w) {w':World} (hok':Ok P σ (unm s) w') (h:ket P fn.results.toList=some rs) (ho:kcz s rs=true) :
  (results fn (act σ s).tmps).run P w'=.ok (den σ (kkq s rs)) w':=by
 have key:∀(f:ResultVar→Sem Value),(∀rv r,kha P rv=some r→(r<1000000∨(keu s (r / 1000000) (s.t.getD (r % 1000000) .undef)).isSome=true)→(f rv).run P w'=.ok (den σ (khb s r)) w') →
   ∀(l:List ResultVar) (rs:List Nat),ket P l=some rs→kcz s rs=true→Sem.run P (List.mapM f l) w'=.ok (rs.map fun r=>den σ (khb s r)) w':=by
  intro f hf l;induction l with
  |nil=>intro rs h _;simp only[ket,Option.some.injEq] at h;subst h;simp
  | cons v l ih=>
   intro rs h ho;simp only[ket] at h;split at h
   rotate_left
   ·cases h
   rename_i r rs' h1 h2;simp only[Option.some.injEq] at h;subst h
   simp only[kcz] at ho;have h3:(r<1000000∨(keu s (r / 1000000) (s.t.getD (r % 1000000) .undef)).isSome=true)∧kcz s rs'=true:=by
    split at ho
    ·rename_i hlt;exact⟨.inl (by simpa [ltB] using hlt),ho⟩
    ·split at ho
     ·rename_i hs;exact⟨.inr hs,ho⟩
     ·cases ho
   simp only[List.mapM_cons,Sem.run_bind,hf v r h1 h3.1,Sem.run_pure,Result.andThen_ok,ih rs' h2 h3.2,List.map_cons]
 obtain⟨l,hl⟩:∃l,fn.results=l.toArray:=⟨fn.results.toList,by simp⟩;have hk:=key (kiL (act σ s).tmps) (fun rv r h1 h2=>klH hok hok' h1 h2) l rs (by rw[hl] at h;simpa using h) ho;rw[kiM,hl];simp only[List.mapM_toArray,Sem.run_bind];have hmap:∀(m:Sem (List Value)),Sem.run P (List.toArray <$> m) w'=(Sem.run P m w').andThen fun a w=>.ok a.toArray w:=fun m=>by simp
 rw[hmap,hk];simp only[Result.andThen_ok,Sem.run_pure];unfold kkq;cases rs with
 |nil=>simp[den,denL]
 | cons r l=>
  cases l with
  |nil=>simp
  |cons r' l=>
   rw[dif_neg (by simp)];simp[den,kq]

theorem Ok.freed {b g:Nat} {B:SB} {w':World} {ds:List Nat} (hok:Ok P σ s w) (hB:s.h[b]?=some B) (hB1:own B=true) (hσ:σ b=some (g,0)) (hds:∀l,l∈ds→l∈s.d∧l≠b) (hrd:s.rd≠some b)
  (hw:∀k,k≠g→w'.heap[k]?=w.heap[k]?) (hsz:w'.heap.size=w.heap.size) (hos:w'.os=w.os) (htp:w'.tape=w.tape) (hou:w'.output=w.output) :
  Ok P σ { s with h:=s.h.set b .free,d:=ds } w'∧Step σ s w σ { s with h:=s.h.set b .free,d:=ds } w':=by
 suffices hz:Ok0 P σ { s with h:=s.h.set b .free,d:=ds } w'∧Step σ s w σ { s with h:=s.h.set b .free,d:=ds } w' from⟨⟨hz.1,hok.cold.step hz.2 rfl⟩,hz.2⟩
 have hbl:b<s.h.length:=(List.getElem?_eq_some_iff.1 hB).1;have hget:∀i,(s.h.set b .free)[i]?=if b=i then some .free else s.h[i]?:=fun i=>by
  rw[List.getElem?_set];by_cases hi:b=i<;>simp[hi];subst hi;exact hbl
 have hown:∀i C,(s.h.set b .free)[i]?=some C→∃C0,s.h[i]?=some C0∧(own C=true→C0=C):=fun i C hC=>by
  rw[hget] at hC;split at hC
  ·rename_i hi;subst hi;cases hC;exact⟨B,hB,fun h=>by cases h⟩
  ·exact⟨C,hC,fun _=>rfl⟩
 refine⟨⟨fun i p hi hp=>?_,fun i j C D p q hij hC hD ho hp hq=>?_,fun i C hC=>?_,fun l hl=>?_,fun l hl=>?_⟩,?_⟩
 ·rw[hsz];exact hok.lt i p (by simpa using hi) hp
 ·obtain⟨C0,hC0,e1⟩:=hown i C hC;obtain⟨D0,hD0,e2⟩:=hown j D hD;exact hok.ne i j C0 D0 p q hij hC0 hD0 (ho.elim (fun h=>.inl (by rw[e1 h];exact h)) (fun h=>.inr (by rw[e2 h];exact h))) hp hq
 ·rw[hget] at hC;split at hC
  ·cases hC;trivial
  ·rename_i hi;refine ked (hok.blk i C hC) (fun q hq=>hw q.1 (fun e=>?_))
   exact hok.ne b i B C (g,0) q hi hB hC (.inl hB1) hσ hq e.symm
 ·obtain⟨h0,hlb⟩:=hds l hl;obtain⟨h1,h2⟩:=hok.marks l h0;exact⟨h1,by rw[hget,if_neg (Ne.symm hlb)];exact h2⟩
 ·obtain⟨h1,C,h2,h3⟩:=hok.rnd l hl;have hlb:l≠b:=fun e=>hrd (by rw[←e];exact hl)
  exact⟨h1,C,by rw[hget,if_neg (Ne.symm hlb)];exact h2,h3⟩
 ·refine⟨by omega,hos,htp,hou,fun k hk hf=>hw k (fun e=>?_),by simp,fun _ _ _=>rfl,fun _ h=>h,fun i C p hC ho hp _=>?_,rfl⟩
  ·subst e;exact hf b B (k,0) hB hB1 hσ rfl
  ·obtain⟨C0,hC0,e1⟩:=hown i C hC;exact⟨i,C0,p,hC0,by rw[e1 ho];exact ho,hp,rfl⟩
theorem kiN {l:Nat} {ds:List Nat} (h:kes (l::ds)=true):l∉ds∧kes ds=true:=by
 simp only[kes] at h;split at h
 ·cases h
 ·rename_i hm;exact⟨fun hm'=>hm (memN_iff.2 hm'),h⟩
theorem kcA {fn:Func} {val:Value} {R:Ending→World→Prop} {tmps:Array Value} {σ0:Names} {s0:SS} {w0:World}:∀(ds:List Nat) (s:SS) (w:World),(∀w',Ok P σ (unm s) w'→(results fn tmps).run P w'=.ok val w')→s.d=ds→kes ds=true→s.rd=none→Ok P σ s w→Step σ0 s0 w0 σ s w →
  (∀w',Ok P σ (unm s) w'→Step σ0 s0 w0 σ (unm s) w'→R (.returned val) w') →
  LeavesInM (FR P none) 0 P fn tmps R (ds.map (mark σ)) .returning w
 | [],s,w,hrs,hd,_,_,hok,hst,h=>by
  refine⟨_,hrs w ?_,h w ?_ ?_⟩
  ·have:unm s=s:=by unfold unm;rw[hd];cases s;simp only at hd;subst hd;rfl
   rw[this];exact hok
  ·have:unm s=s:=by unfold unm;rw[hd];cases s;simp only at hd;subst hd;rfl
   rw[this];exact hok
  ·have:unm s=s:=by unfold unm;rw[hd];cases s;simp only at hd;subst hd;rfl
   rw[this];exact hst
 | l::ds,s,w,hrs,hd,hnd,hrd,hok,hst,h=>by
  obtain⟨hl,hnd'⟩:=kiN hnd;obtain⟨_,hB⟩:=hok.marks l (by rw[hd];simp);obtain⟨g,hσ,hh⟩:=hok.blk l _ hB;have hlt:=hok.lt l _ (List.getElem?_eq_some_iff.1 hB).1 hσ;refine⟨by simp,.inl ⟨g,w.putObj g (.deferred none),?_,?_,?_⟩⟩
  ·simp[mark,hσ]
  ·exact run_takeDeferred hh
  ·have hf:=hok.freed (ds:=ds) (w':=w.putObj g (.deferred none)) hB rfl hσ (fun k hk=>⟨by rw[hd];exact List.mem_cons_of_mem _ hk,fun e=>hl (e▸hk)⟩) (by rw[hrd];simp)
    (fun k hk=>by simp only[World.putObj];rw[Array.getElem?_setIfInBounds_ne (Ne.symm hk)]) (by simp[World.putObj]) rfl rfl rfl
   have e:unm { s with h:=s.h.set l .free,d:=ds }=unm s:=by unfold unm;simp only[hd,kbV]
   refine kcA ds { s with h:=s.h.set l .free,d:=ds } _ (fun w' h=>hrs w' (by rw[←e];exact h)) rfl hnd' hrd hf.1 (hst.trans hf.2) ?_
   intro w' h1 h2;rw[e] at h1 h2;exact h w' h1 h2
theorem kbf {f:Nat} {x:XC} {n:Nat} {rs:List Nat} {args:List SV} {H:List SB} {kP:SV→List SB→List Nat→Prop} (hm:P.follows .mixedOrders=true) (hf:FnOk P f x n rs)
  (h:ex std P x { t:=args++List.replicate (n-args.length) .undef,h:=H,r:=[],d:=[],rd:=none } (fin rs kP)):Con P f args H kP:=by
 obtain⟨fn,c,h1,h2,h3,h4,h5⟩:=hf.has;refine⟨hf.go,fun σ w hok=>?_⟩
 refine callsIn_of_wp_marks h1 h2 ⟨fn,h1⟩ ?_
 have hok':Ok P σ { t:=args++List.replicate (n-args.length) .undef,h:=H,r:=[],d:=[],rd:=none } w:=⟨⟨hok.lt,hok.ne,hok.blk,hok.marks,hok.rnd⟩,Cold.nil rfl⟩;have ha:act σ { t:=args++List.replicate (n-args.length) .undef,h:=H,r:=[],d:=[],rd:=none }={ tmps:=(denL σ args).toArray++Array.replicate (fn.ntmps-(denL σ args).toArray.size) undef,defers:=[] }:=by
  simp only[act,kdy,List.map_nil,List.append_nil,h4,List.size_toArray,jC];congr 1
  simp only[kq,List.map_replicate,den];rw[←List.toArray_replicate];simp
 rw[←ha];refine kbc (kbe hm) c x σ _ w _ _ h3 h hok' ?_
 intro e' e σ' s' a w' hK hok'' hst he;have key:(if kev s'&&kcz s' rs then kP (kkq s' rs) (kbV s'.d s'.h) s'.r else False)→LeavesInM (FR P none) 0 P fn (act σ' s').tmps (km0 P σ H w kP) (act σ' s').defers .returning w':=by
  intro hK;split at hK
  rotate_left
  ·exact hK.elim
  rename_i hnd;simp only[Bool.and_eq_true] at hnd;have hrd:s'.rd=none:=hst.rd;obtain⟨hnd1,hx⟩:=khc hnd.1;rw[show(act σ' s').defers=s'.d.map (mark σ') by simp only[act,hx,List.append_nil]];refine kcA s'.d s' w' (fun w'' h=>khe hok'' h h5 hnd.2) rfl hnd1 hrd hok'' hst ?_
  intro w'' ho hs;refine⟨σ',kkq s' rs,kbV s'.d s'.h,s'.r,hK,rfl,?_,?_⟩
  ·exact⟨⟨ho.lt,ho.ne,ho.blk,ho.marks,fun l hl=>by cases hl⟩,Cold.nil rfl⟩
  ·exact⟨hs.size,hs.os,hs.tape,hs.output,hs.far,hs.len,hs.names,hs.red,hs.own,rfl⟩
 cases e'<;>cases e<;>simp only[qg] at he<;>simp only[fin] at hK
 ·subst he;exact key hK
 ·subst he;exact key hK
end
end Go.Sx
namespace Go.Sx
open Go

def kbW (R:List Nat) (h:List SB):List Nat→Prop→Prop
 |[],K=>K
 |l::ds,K=>if ka4 l R then False else match h[l]? with
  |some .defd=>kbW R h ds K
  |_=>False
def kbX (R:List Nat) (h:List SB) (rd:Option Nat) (K:Prop):Prop:=
 match rd with
 |none=>K
 |some l=>if ka4 l R then False else match h[l]? with
  |some (.loop _ _ _ _ _ _)=>K
  |_=>False
def kc7:List Nat→List Nat→List Nat
 |[],R=>R
 |n::l,R=>kc7 l (kfY n R)
def back (H:List SB) (R:List Nat) (js:Nat→Value) (s:SS):SS:={ s with t:=ka6 R js 0 s.t,h:=H,r:=kc7 R s.r }
def qE (s:SS) (K:SV→SS→Prop):SV→List SB→List Nat→Prop:=fun v H R=>
 ∀js,kbW R H s.d (kbX R H s.rd (K v (back H R js s)))

section
variable {P:Program} {σ:Names} {s:SS} {w:World}
theorem klI {n m:Nat} {R:List Nat}:m∈kfY n R↔m=n∨m∈R:=by
 unfold kfY;split
 ·rename_i h;rw[memN_iff] at h;exact⟨.inr,fun h'=>h'.elim (fun e=>by subst e;exact h) id⟩
 ·simp
theorem mem_addAll {m:Nat}:∀{l R:List Nat},m∈kc7 l R↔m∈l∨m∈R
 |[],R=>by simp[kc7]
 | n::l,R=>by
  simp only[kc7,mem_addAll (l:=l),klI,List.mem_cons];constructor
  ·rintro(h|h|h)
   ·exact .inl (.inr h)
   ·exact .inl (.inl h)
   ·exact .inr h
  ·rintro((h|h)|h)
   ·exact .inr (.inl h)
   ·exact .inl h
   ·exact .inr (.inr h)
theorem jE {R:List Nat} {h:List SB} {K:Prop}:∀{ds:List Nat},kbW R h ds K→K∧∀l∈ds,l∉R∧h[l]?=some .defd
 |[],hk=>⟨hk,fun l hl=>by cases hl⟩
 | l::ds,hk=>by
  simp only[kbW] at hk;split at hk
  ·exact hk.elim
  rename_i hm;split at hk
  ·rename_i hh;obtain⟨h1,h2⟩:=jE hk;refine⟨h1,fun l' hl'=>?_⟩
   rcases List.mem_cons.1 hl' with rfl|hl'
   ·exact⟨fun hm'=>hm (memN_iff.2 hm'),hh⟩
   ·exact h2 l' hl'
  ·exact hk.elim
theorem jU {R:List Nat} {h:List SB} {K:Prop} {rd:Option Nat} (hk:kbX R h rd K):K∧∀l,rd=some l→l∉R∧∃B,h[l]?=some B∧jh B=true:=by
 cases rd with
 |none=>exact⟨hk,fun l hl=>by cases hl⟩
 | some l=>
  simp only[kbX] at hk;split at hk
  ·exact hk.elim
  rename_i hm;split at hk
  ·rename_i hh;refine⟨hk,fun l' hl'=>?_⟩
   cases hl'
   exact⟨fun hm'=>hm (memN_iff.2 hm'),_,hh,rfl⟩
  ·exact hk.elim
theorem kjq {n:Nat} {R:List Nat} {js:Nat→Value}:∀{l:List SV} {i:Nat},scL n l=true→scL n (ka6 R js i l)=true
 |[],_,_=>rfl
 | v::l,i,h=>by
  simp only[scL] at h;split at h
  ·rename_i hv;simp only[ka6,scL];have:scV n (if men R v=true then SV.val (js i) else v)=true:=by
    split
    ·rfl
    ·exact hv
   rw[if_pos this];exact kjq h
  ·cases h
theorem qI {σ':Names} {n:Nat} {R:List Nat} {t:List SV} (hsc:scL n t=true) (hσ:∀i,i<n→i∉R→σ' i=σ i) :
  denL σ' (ka6 R (fun i=>den σ (t.getD i .undef)) 0 t)=denL σ t:=by
 let σ1:Names:=fun i=>if i<n then σ' i else σ i
 have h1:∀i,i∉R→σ1 i=σ i:=fun i hi=>by
  simp only[σ1];split
  ·exact hσ i (by assumption) hi
  ·rfl
 have h2:denL σ1 (ka6 R (fun i=>den σ (t.getD i .undef)) 0 t)=denL σ t:=kar h1 t 0 (fun k v hv=>by simp[List.getD,hv]);rw[←h2];exact sc_denL (fun i hi=>by simp only[σ1];rw[if_pos hi]) _ (kjq hsc)
theorem khf {f:Nat} {args:List SV} {K:SV→SS→Prop} {X:XE→SS→Prop} (hsc:scL s.h.length s.t=true) (h:Con P f args s.h (qE s K)):CallX P f args s K X:=by
 refine⟨h.go,fun σ w hok=>?_⟩
 have hok0:Ok P σ (small s.h []) w:=⟨⟨hok.lt,hok.ne,hok.blk,(fun l hl=>by cases hl),(fun l hl=>by cases hl)⟩,Cold.nil rfl⟩;have hc:CallsIn (FR P (rOf σ s)) 0 P f (denL σ args).toArray w (km0 P σ s.h w (qE s K)):=h.out σ w hok0;refine hc.mono ?_
 rintro e w' ⟨σ',v,H',R,hP,rfl,hok',hst⟩;obtain⟨hP,hkd⟩:=jE (hP (fun i=>den σ (s.t.getD i .undef)));obtain⟨hP,hkr⟩:=jU hP;have hlt:∀l,l∈s.d→l<s.h.length:=fun l hl=>(List.getElem?_eq_some_iff.1 (hok.marks l hl).2).1
 suffices hz:Ok0 P σ' (back H' R (fun i=>den σ (s.t.getD i .undef)) s) w'∧Step σ s w σ' (back H' R (fun i=>den σ (s.t.getD i .undef)) s) w'∧act σ' (back H' R (fun i=>den σ (s.t.getD i .undef)) s)=act σ s from
  ⟨σ',back H' R (fun i=>den σ (s.t.getD i .undef)) s,⟨hz.1,hok.cold.step hz.2.1 rfl⟩,hz.2.1,hz.2.2,⟨v,hP,rfl⟩⟩
 refine⟨?_,?_,?_⟩
 ·refine⟨hok'.lt,hok'.ne,hok'.blk,fun l hl=>⟨?_,(hkd l hl).2⟩,fun l hl=>⟨?_,(hkr l hl).2⟩⟩
  ·intro hm;rcases mem_addAll.1 hm with hm|hm
   ·exact(hkd l hl).1 hm
   ·exact(hok.marks l hl).1 hm
  ·intro hm;rcases mem_addAll.1 hm with hm|hm
   ·exact(hkr l hl).1 hm
   ·exact(hok.rnd l hl).1 hm
 ·exact⟨hst.size,hst.os,hst.tape,hst.output,hst.far,hst.len,fun i hi hr=>hst.names i hi (fun hm=>hr (mem_addAll.2 (.inl hm))),fun i hi=>mem_addAll.2 (.inr hi),hst.own,rfl⟩
 ·unfold act;simp only[back];rw[qI hsc (fun i hi hr=>hst.names i hi hr)];congr 1
  refine congrArg (·++s.x) (List.map_congr_left ?_)
  intro l hl;unfold mark;rw[hst.names l (hlt l hl) (hkd l hl).1]
end
end Go.Sx
namespace Go.Sx
open Go

def rn (ρ:List (Nat×Ix)) (n0:Nat) (i:Nat):Nat×Ix:=
 match ρ[i]? with
 |some e=>e
 |none=>(n0+(i-ρ.length),.z)
def rIx (o ix:Ix):Ix:=
 match o with
 |.z=>ix
 |.n o=>match ix with
  |.z=>.n o
  |.n i=>.n (o+i)
mutual
def ren (ρ:List (Nat×Ix)) (n0:Nat):SV→SV
 |.ptr b i sz j=>.ptr (rn ρ n0 b).1 (rIx (rn ρ n0 b).2 i) sz j
 |.slice b i sz len cap=>.slice (rn ρ n0 b).1 (rIx (rn ρ n0 b).2 i) sz len cap
 |.yield l=>.yield (rn ρ n0 l).1
 |.fn f cs=>.fn f (renL ρ n0 cs)
 |.iface t v=>.iface t (ren ρ n0 v)
 |.agg cs=>.agg (renL ρ n0 cs)
 |.tup cs=>.tup (renL ρ n0 cs)
 |v=>v
def renL (ρ:List (Nat×Ix)) (n0:Nat):List SV→List SV
 |[]=>[]
 |v::l=>ren ρ n0 v::renL ρ n0 l
end
def isZ (o:Ix):Bool:=
 match o with
 |.z=>true
 |.n _=>false
def is1 (n:Nat):Bool:=n==1
mutual
def okV (ρ:List (Nat×Ix)) (n0:Nat):SV→Bool
 |.ptr b _ sz _=>isZ (rn ρ n0 b).2||is1 sz
 |.slice b _ sz _ _=>isZ (rn ρ n0 b).2||is1 sz
 |.yield _=>true
 |.fn _ cs=>okL ρ n0 cs
 |.iface _ v=>okV ρ n0 v
 |.agg cs=>okL ρ n0 cs
 |.tup cs=>okL ρ n0 cs
 |_=>true
def okL (ρ:List (Nat×Ix)) (n0:Nat):List SV→Bool
 |[]=>true
 |v::l=>if okV ρ n0 v then okL ρ n0 l else false
end
def kas (ρ:List (Nat×Ix)) (n0:Nat):SB→SB
 |.one t row=>.one t (renL ρ n0 row)
 |.bufR t sz row c=>.bufR t sz (renL ρ n0 row) c
 |.arr t sz len f=>.arr t sz len (fun i=>renL ρ n0 (f i))
 |.roA sz len f=>.roA sz len (fun i=>renL ρ n0 (f i))
 |.bufA t sz len f c=>.bufA t sz len (fun i=>renL ρ n0 (f i)) c
 |.loop s p t ps a b=>.loop s p (renL ρ n0 t) ps a b
 |B=>B
def okB (ρ:List (Nat×Ix)) (n0:Nat) (B:SB) (K:Prop):Prop:=
 match B with
 |.one _ row=>if okL ρ n0 row then K else False
 |.bufR _ _ row _=>if okL ρ n0 row then K else False
 |.arr _ _ _ f=>(∀i,okL ρ n0 (f i)=true)∧K
 |.roA _ _ f=>(∀i,okL ρ n0 (f i)=true)∧K
 |.bufA _ _ _ f _=>(∀i,okL ρ n0 (f i)=true)∧K
 |.loop _ _ t _ _ _=>if okL ρ n0 t then K else False
 |_=>K
mutual
def gen:SV→SV
 |.lit k n=>.int k n
 |.fn f cs=>.fn f (genL cs)
 |.iface t v=>.iface t (gen v)
 |.agg cs=>.agg (genL cs)
 |.tup cs=>.tup (genL cs)
 |v=>v
def genL:List SV→List SV
 |[]=>[]
 |v::l=>gen v::genL l
end
def q7:SB→SB
 |.one t row=>.one t (genL row)
 |.bufR t sz row c=>.bufR t sz (genL row) c
 |.loop s p t ps a b=>.loop s p (genL t) ps a b
 |B=>B
structure kiO (o:Nat) (l l':List Int):Prop where
 out:o+l.length≤l'.length∧∀i,i<l.length→l.getD i 0=l'.getD (o+i) 0
def fit (ρ:List (Nat×Ix)) (n0:Nat) (o:Ix) (B C:SB):Prop:=
 match B with
 |.ro k l=>match C with
  |.ro k' l'=>k=k'∧kiO (ixN o) l l'
  |.ints _ k' l'=>k=k'∧kiO (ixN o) l l'
  |.buf _ k' l' _=>k=k'∧kiO (ixN o) l l'
  |_=>False
 |.roA sz len f=>match C with
  |.arr _ sz' len' g=>(sz=sz'∧Le len len'∧g=fun i=>renL ρ n0 (f i))∧isZ o=true
  |.bufA _ sz' len' g _=>(sz=sz'∧Le len len'∧g=fun i=>renL ρ n0 (f i))∧isZ o=true
  |C=>C=.roA sz len (fun i=>renL ρ n0 (f i))∧isZ o=true
 |.free=>False
 |B=>q7 C=q7 (kas ρ n0 B)∧isZ o=true
def fits (ρ:List (Nat×Ix)) (n0:Nat) (h:List SB):List (Nat×Ix)→List SB→Prop→Prop
 |[],[],K=>K
 |(b,o)::es,B::H,K=>(match h[b]? with
  |some C=>fit ρ n0 o B C
  |none=>False)∧okB ρ n0 B (fits ρ n0 h es H K)
 |_,_,_=>False
def kc8 (b:Nat) (o:Bool):List (Nat×Ix)→List SB→Bool
 |(b',_)::es,B::H=>if o||own B then(if b==b' then false else kc8 b o es H) else kc8 b o es H
 |_,_=>true
def kgb:List (Nat×Ix)→List SB→Bool
 |(b,_)::es,B::H=>if kc8 b (own B) es H then kgb es H else false
 |_,_=>true
def knK (s:SS) (ρ:List (Nat×Ix)) (cargs args:List SV) (H:List SB):Prop:=
 genL args=genL (renL ρ s.h.length cargs)∧okL ρ s.h.length cargs=true∧kgb ρ H=true∧scS s (fits ρ s.h.length s.h ρ H True)

def kc9 (ρ:List (Nat×Ix)) (n0:Nat):List (Nat×Ix)→List SB→List SB→List SB
 |(b,_)::es,B::H,h=>kc9 ρ n0 es H (if own B then h.set b (kas ρ n0 B) else h)
 |[],H,h=>h++H.map (kas ρ n0)
 |_,[],h=>h
def kew:List SB→List SB→Bool
 |B::H,B'::H'=>if own B==own B' then kew H H' else false
 |[],B'::H'=>if own B' then kew [] H' else false
 |[],[]=>true
 |_::_,[]=>false
def kb7 (H:List SB):List Nat→Bool
 |[]=>true
 |i::R=>match H[i]? with
  |some B=>if own B then kb7 H R else false
  |none=>kb7 H R
def okH (ρ:List (Nat×Ix)) (n0:Nat):List SB→Prop→Prop
 |[],K=>K
 |B::H,K=>okB ρ n0 B (okH ρ n0 H K)
def rR (ρ:List (Nat×Ix)) (n0:Nat) (R:List Nat):List Nat:=R.map fun i=>(rn ρ n0 i).1
def kcB (n:Nat):List Nat→List Nat
 |[]=>[]
 |i::R=>if ltB i n then i::kcB n R else kcB n R
def mrg (ρ:List (Nat×Ix)) (H':List SB) (R:List Nat) (js:Nat→Nat→Value) (s:SS):SS:=
 { s with t:=ka6 R (js 0) 0 s.t,h:=kc9 ρ s.h.length ρ H' (ka7 R js 0 s.h),r:=kc7 R s.r }
def kiP (ρ:List (Nat×Ix)) (H H':List SB) (R:List Nat) (js:Nat→Nat→Value) (v:SV) (s:SS) (K:SV→SS→Prop):Prop:=
 if kew H H'&&kb7 H R&&okV ρ s.h.length v then
  okH ρ s.h.length H' (kcp (rR ρ s.h.length (kcB ρ.length R)) s.h (kbW (rR ρ s.h.length (kcB ρ.length R)) (mrg ρ H' (rR ρ s.h.length (kcB ρ.length R)) js s).h s.d
   (kbX (rR ρ s.h.length (kcB ρ.length R)) (mrg ρ H' (rR ρ s.h.length (kcB ρ.length R)) js s).h s.rd
    (K (ren ρ s.h.length v) (mrg ρ H' (rR ρ s.h.length (kcB ρ.length R)) js s)))))
 else False
mutual
theorem kdW (σ:Names):∀(v:SV),den σ (gen v)=den σ v
 |.undef=>rfl
 |.val _=>rfl
 |.bool _=>rfl
 |.lit _ _=>rfl
 |.int _ _=>rfl
 |.str _=>rfl
 |.ptr _ _ _ _=>rfl
 |.slice _ _ _ _ _=>rfl
 |.yield _=>rfl
 |.fn f cs=>by simp only[gen,den,den_genL σ cs]
 |.iface t v=>by simp only[gen,den,kdW σ v]
 |.agg cs=>by simp only[gen,den,den_genL σ cs]
 |.tup cs=>by simp only[gen,den,den_genL σ cs]
theorem den_genL (σ:Names):∀(l:List SV),denL σ (genL l)=denL σ l
 |[]=>rfl
 |v::l=>by simp only[genL,denL,kdW σ v,den_genL σ l]
end
theorem jF (B:SB):own (q7 B)=own B:=by cases B<;>rfl
theorem kbg (B:SB):jh (q7 B)=jh B:=by cases B<;>rfl
section
variable {P:Program}
theorem klJ (l:List SV):genL l=[]↔l=[]:=by cases l<;>simp[genL]
theorem holds_gen {σ:Names} {p:Option (Nat×Nat)} {w:World} {B:SB}:holds P σ p w (q7 B)↔holds P σ p w B:=by
 cases B<;>simp only[q7,holds,den_genL,klJ]

def cut (ρ:List (Nat×Ix)) (n0:Nat) (σ:Names):Names:=fun i=>(σ (rn ρ n0 i).1).map fun p=>(p.1,p.2+ixN (rn ρ n0 i).2)
theorem kjr (o ix:Ix):ixN (rIx o ix)=ixN o+ixN ix:=by cases o<;>cases ix<;>simp[rIx,ixN]
theorem kbC {o:Ix} (h:isZ o=true):ixN o=0:=by cases o<;>simp[isZ,ixN] at *
theorem kjs {o ix:Ix} (h:isZ o=true):rIx o ix=ix:=by cases o<;>simp[isZ,rIx] at *
mutual
theorem jS (ρ:List (Nat×Ix)) (n0:Nat) (σ σc:Names) (h:∀i,σc i=cut ρ n0 σ i):∀(v:SV),okV ρ n0 v=true→den σ (ren ρ n0 v)=den σc v
 |.undef,_=>rfl
 |.val _,_=>rfl
 |.bool _,_=>rfl
 |.lit _ _,_=>rfl
 |.int _ _,_=>rfl
 |.str _,_=>rfl
 | .ptr b i sz j,hv=>by
  simp only[ren,den,h,cut,Option.map_map];simp only[okV,Bool.or_eq_true] at hv;congr 2
  funext p
  simp only[Function.comp];rcases hv with hv|hv
  ·rw[kjs hv,kbC hv];simp
  ·have:sz=1:=by simpa [is1] using hv
   subst this;rw[kjr];simp;omega
 | .slice b i sz len cap,hv=>by
  simp only[ren,den,h,cut,Option.map_map];simp only[okV,Bool.or_eq_true] at hv;congr 2
  funext p
  simp only[Function.comp];rcases hv with hv|hv
  ·rw[kjs hv,kbC hv];simp
  ·have:sz=1:=by simpa [is1] using hv
   subst this;rw[kjr];simp;omega
 |.fn f cs,hv=>by simp only[ren,den,den_renL ρ n0 σ σc h cs (by simpa [okV] using hv)]
 |.yield l,_=>by simp[ren,den,h,cut,Option.map_map,Function.comp_def]
 |.iface t v,hv=>by simp only[ren,den,jS ρ n0 σ σc h v (by simpa [okV] using hv)]
 |.agg cs,hv=>by simp only[ren,den,den_renL ρ n0 σ σc h cs (by simpa [okV] using hv)]
 |.tup cs,hv=>by simp only[ren,den,den_renL ρ n0 σ σc h cs (by simpa [okV] using hv)]
theorem den_renL (ρ:List (Nat×Ix)) (n0:Nat) (σ σc:Names) (h:∀i,σc i=cut ρ n0 σ i):∀(l:List SV),okL ρ n0 l=true→denL σ (renL ρ n0 l)=denL σc l
 |[],_=>rfl
 | v::l,hl=>by
  simp only[okL] at hl;split at hl
  ·rename_i hv;simp only[renL,denL,jS ρ n0 σ σc h v hv,den_renL ρ n0 σ σc h l hl]
  ·cases hl
end
theorem qQ (ρ:List (Nat×Ix)) (n0:Nat) (B:SB):own (kas ρ n0 B)=own B:=by cases B<;>rfl
theorem kgc {ρ:List (Nat×Ix)} {n0:Nat} {B:SB} {K:Prop} (h:okB ρ n0 B K):K∧okB ρ n0 B True:=by
 cases B<;>simp only[okB] at h ⊢<;>first|exact⟨h,trivial⟩|exact⟨h.2,h.1,trivial⟩|(split at h<;>first|(rename_i hh;simp only[hh,if_true];exact⟨h,trivial⟩)|exact h.elim)
theorem kbh (ρ:List (Nat×Ix)) (n0:Nat):∀(l:List SV),(renL ρ n0 l).length=l.length
 |[]=>rfl
 |v::l=>by simp[renL,kbh ρ n0 l]
theorem qv (ρ:List (Nat×Ix)) (n0:Nat):∀(l:List SV) (i:Nat),(renL ρ n0 l)[i]?=(l[i]?).map (ren ρ n0)
 |[],i=>by simp[renL]
 |v::l,0=>by simp[renL]
 |v::l,i+1=>by simp[renL,qv ρ n0 l i]
theorem kad {ρ:List (Nat×Ix)} {n0:Nat}:∀{l:List SV} {j:Nat} {v:SV},okL ρ n0 l=true→l[j]?=some v→okV ρ n0 v=true
 |[],j,v,_,hv=>by simp at hv
 | u::l,j,v,h,hv=>by
  simp only[okL] at h;split at h
  ·cases j with
   |zero=>simp at hv;subst hv;assumption
   |succ j=>simp at hv;exact kad h hv
  ·cases h
theorem kbD {ρ:List (Nat×Ix)} {n0:Nat} {σ σc:Names} {p:Option (Nat×Nat)} {w:World} {B:SB} (h:∀i,σc i=cut ρ n0 σ i) (hB:okB ρ n0 B True) :
  holds P σ p w (kas ρ n0 B)↔holds P σc p w B:=by
 cases B<;>simp only[okB] at hB<;>simp only[kas]
 case one t row=>
  split at hB
  ·rename_i hh;simp only[holds,den_renL ρ n0 σ σc h row hh]
  ·exact hB.elim
 case bufR t sz row c=>
  split at hB
  ·rename_i hh;have e:renL ρ n0 row=[]↔row=[]:=by cases row<;>simp[renL]
   simp only[holds,den_renL ρ n0 σ σc h row hh,e]
  ·exact hB.elim
 case loop st pe t ps a b=>
  split at hB
  ·rename_i hh;simp only[holds,den_renL ρ n0 σ σc h t hh]
  ·exact hB.elim
 case arr t sz len f=>
  simp only[holds,kbh];constructor
  ·rintro⟨b,cs,h1,h2,h3,h4⟩;refine⟨b,cs,h1,h2,h3,fun i hi=>⟨(h4 i hi).1,fun j v hv=>?_⟩⟩
   rw[(h4 i hi).2 j (ren ρ n0 v) (by rw[qv,hv];rfl),jS ρ n0 σ σc h v (kad (hB.1 i) hv)]
  ·rintro⟨b,cs,h1,h2,h3,h4⟩;refine⟨b,cs,h1,h2,h3,fun i hi=>⟨(h4 i hi).1,fun j v hv=>?_⟩⟩
   rw[qv] at hv;simp only[Option.map_eq_some_iff] at hv;obtain⟨v,hv,rfl⟩:=hv;rw[(h4 i hi).2 j v hv,jS ρ n0 σ σc h v (kad (hB.1 i) hv)]
 case bufA t sz len f c=>
  simp only[holds,kbh];constructor
  ·rintro(h0|⟨b,cs,h1,h2,h3,h3',h4⟩)
   ·exact .inl h0
   refine .inr ⟨b,cs,h1,h2,h3,h3',fun i hi=>⟨(h4 i hi).1,fun j v hv=>?_⟩⟩
   rw[(h4 i hi).2 j (ren ρ n0 v) (by rw[qv,hv];rfl),jS ρ n0 σ σc h v (kad (hB.1 i) hv)]
  ·rintro(h0|⟨b,cs,h1,h2,h3,h3',h4⟩)
   ·exact .inl h0
   refine .inr ⟨b,cs,h1,h2,h3,h3',fun i hi=>⟨(h4 i hi).1,fun j v hv=>?_⟩⟩
   rw[qv] at hv;simp only[Option.map_eq_some_iff] at hv;obtain⟨v,hv,rfl⟩:=hv;rw[(h4 i hi).2 j v hv,jS ρ n0 σ σc h v (kad (hB.1 i) hv)]
 case roA sz len f=>
  simp only[holds,kbh];constructor
  ·rintro(h0|⟨b,o,h1,h4⟩)
   ·exact .inl h0
   refine .inr ⟨b,o,h1,fun i hi=>⟨(h4 i hi).1,fun j v hv=>?_⟩⟩
   rw[(h4 i hi).2 j (ren ρ n0 v) (by rw[qv,hv];rfl),jS ρ n0 σ σc h v (kad (hB.1 i) hv)]
  ·rintro(h0|⟨b,o,h1,h4⟩)
   ·exact .inl h0
   refine .inr ⟨b,o,h1,fun i hi=>⟨(h4 i hi).1,fun j v hv=>?_⟩⟩
   rw[qv] at hv;simp only[Option.map_eq_some_iff] at hv;obtain⟨v,hv,rfl⟩:=hv;rw[(h4 i hi).2 j v hv,jS ρ n0 σ σc h v (kad (hB.1 i) hv)]
 all_goals exact Iff.rfl
end
end Go.Sx
namespace Go.Sx
open Go
section
variable {P:Program} {σ:Names} {s:SS} {w:World}

theorem kda {ρ:List (Nat×Ix)} {n0:Nat} {h:List SB} {K:Prop}:∀{es:List (Nat×Ix)} {H:List SB},fits ρ n0 h es H K→es.length=H.length∧K∧∀(i:Nat) (B:SB),H[i]?=some B →
  ∃e C,es[i]?=some e∧h[e.1]?=some C∧fit ρ n0 e.2 B C∧okB ρ n0 B True
 |[],[],hf=>⟨rfl,hf,fun i B hB=>by simp at hB⟩
 | (b,o)::es,B::H,hf=>by
  simp only[fits] at hf;obtain⟨h1,h2⟩:=hf;obtain⟨h2,h3⟩:=kgc h2;obtain⟨h4,h5,h6⟩:=kda h2;refine⟨by simp[h4],h5,fun i B' hB=>?_⟩
  cases i with
  | zero=>
   simp at hB;subst hB
   split at h1
   ·rename_i C hC;exact⟨(b,o),C,by simp,hC,h1,h3⟩
   ·exact h1.elim
  |succ i=>simp at hB;simpa using h6 i B' hB
 |[],_::_,hf=>hf.elim
 |_::_,[],hf=>by simp only[fits] at hf
theorem kae {ρ:List (Nat×Ix)} {n0:Nat} {o:Ix} {B C:SB} (h:fit ρ n0 o B C) (hB:own B=true):own C=own B∧isZ o=true:=by
 have key:q7 C=q7 (kas ρ n0 B)∧isZ o=true:=by cases B<;>first|exact h|cases hB
 refine⟨?_,key.2⟩
 rw[←jF C,key.1,jF,qQ]
theorem kbi {b:Nat} {o:Bool}:∀{es:List (Nat×Ix)} {H:List SB},kc8 b o es H=true→∀(j:Nat) (e:Nat×Ix) (C:SB),es[j]?=some e→H[j]?=some C→(o=true∨own C=true)→b≠e.1
 |[],H,_,j,e,C,he,_,_=>by simp at he
 |(b',o')::es,[],_,j,e,C,_,hC,_=>by simp at hC
 | (b',o')::es,B::H,h,j,e,C,he,hC,ho=>by
  simp only[kc8] at h;cases j with
  |zero=>
   simp at he hC;subst he;subst hC
   rw[if_pos (by simpa using ho)] at h;split at h
   ·cases h
   ·rename_i hb;simpa using hb
  | succ j=>
   simp at he hC
   have:kc8 b o es H=true:=by
    split at h
    ·split at h
     ·cases h
     ·exact h
    ·exact h
   exact kbi this j e C he hC ho
theorem kbj:∀{es:List (Nat×Ix)} {H:List SB},kgb es H=true→∀(i j:Nat) (e e':Nat×Ix) (B C:SB),i≠j→es[i]?=some e→es[j]?=some e'→H[i]?=some B→H[j]?=some C→(own B=true∨own C=true)→e.1≠e'.1
 |[],H,_,i,j,e,e',B,C,_,he,_,_,_,_=>by simp at he
 |(b,o)::es,[],_,i,j,e,e',B,C,_,_,_,hB,_,_=>by simp at hB
 | (b,o)::es,A::H,h,i,j,e,e',B,C,hij,he,he',hB,hC,ho=>by
  simp only[kgb] at h;split at h
  rotate_left
  ·cases h
  rename_i h1;cases i with
  | zero=>
   cases j with
   |zero=>exact absurd rfl hij
   |succ j=>
    simp at he he' hB hC;subst he;subst hB
    exact kbi h1 j e' C he' hC ho
  | succ i=>
   cases j with
   |zero=>
    simp at he he' hB hC;subst he';subst hC
    exact(kbi h1 i e B he hB ho.symm).symm
   |succ j=>
    simp at he he' hB hC
    exact kbj h i j e e' B C (by omega) he he' hB hC ho
theorem kb8:∀{H H':List SB},kew H H'=true→H.length≤H'.length∧(∀(i:Nat) (B B':SB),H[i]?=some B→H'[i]?=some B'→own B=own B')∧(∀(i:Nat) (B':SB),H.length≤i→H'[i]?=some B'→own B'=true)
 |[],[],_=>⟨Nat.le_refl _,fun i B B' h=>by simp at h,fun i B' _ h=>by simp at h⟩
 |[],B'::H',h=>by
  simp only[kew] at h;split at h
  rotate_left
  ·cases h
  rename_i hB;obtain⟨_,_,h3⟩:=kb8 h;refine⟨by simp,fun i B B' h=>by simp at h,fun i C _ hC=>?_⟩
  cases i with
  |zero=>simp at hC;subst hC;exact hB
  |succ i=>simp at hC;exact h3 i C (by simp) hC
 | B::H,B'::H',h=>by
  simp only[kew] at h;split at h
  rotate_left
  ·cases h
  rename_i hB;obtain⟨h1,h2,h3⟩:=kb8 h;refine⟨by simpa using h1,fun i C C' hC hC'=>?_,fun i C hi hC=>?_⟩
  ·cases i with
   |zero=>simp at hC hC';subst hC;subst hC';simpa using hB
   |succ i=>simp at hC hC';exact h2 i C C' hC hC'
  ·cases i with
   |zero=>simp at hi
   |succ i=>simp at hC hi;exact h3 i C hi hC
 |_::_,[],h=>by simp[kew] at h
theorem kaf {H:List SB}:∀{R:List Nat},kb7 H R=true→∀i∈R,∀B,H[i]?=some B→own B=true
 |[],_,i,hi,_,_=>by cases hi
 | k :: R,h,i,hi,B,hB=>by
  simp only[kb7] at h;rcases List.mem_cons.1 hi with rfl|hi
  ·rw[hB] at h;simp only at h
   split at h
   ·assumption
   ·cases h
  ·have:kb7 H R=true:=by
    split at h
    ·split at h
     ·exact h
     ·cases h
    ·exact h
   exact kaf this i hi B hB
theorem mem_rOld {n i:Nat}:∀{R:List Nat},i∈kcB n R↔i∈R∧i<n
 |[]=>by simp[kcB]
 | k::R=>by
  simp only[kcB];split
  ·rename_i h;have h:k<n:=by simpa [ltB] using h
   simp only[List.mem_cons,mem_rOld (R:=R)];constructor
   ·rintro(rfl|h')
    ·exact⟨.inl rfl,h⟩
    ·exact⟨.inr h'.1,h'.2⟩
   ·rintro⟨rfl|h',h2⟩
    ·exact .inl rfl
    ·exact .inr ⟨h',h2⟩
  ·rename_i h;have h:¬k<n:=by simpa [ltB] using h
   simp only[List.mem_cons,mem_rOld (R:=R)];constructor
   ·rintro⟨h',h2⟩;exact⟨.inr h',h2⟩
   ·rintro⟨rfl|h',h2⟩
    ·exact absurd h2 h
    ·exact⟨h',h2⟩
theorem khg {ρ:List (Nat×Ix)} {n0:Nat} {K:Prop}:∀{H:List SB},okH ρ n0 H K→K∧∀(i:Nat) (B:SB),H[i]?=some B→okB ρ n0 B True
 |[],h=>⟨h,fun i B hB=>by simp at hB⟩
 |B::H,h=>by
  simp only[okH] at h;obtain⟨h1,h2⟩:=kgc h;obtain⟨h3,h4⟩:=khg h1;refine⟨h3,fun i C hC=>?_⟩
  cases i with
  |zero=>simp at hC;subst hC;exact h2
  |succ i=>simp at hC;exact h4 i C hC
theorem khh {R:List Nat} {js:Nat→Nat→Value}:∀(l:List SB) k,(ka7 R js k l).length=l.length
 |[],k=>rfl
 |B::l,k=>by simp[ka7,khh l]
theorem khi {ρ:List (Nat×Ix)} {n0:Nat}:∀(es:List (Nat×Ix)) (H h:List SB) (k:Nat),es.length≤H.length→(kc9 ρ n0 es H h)[h.length+k]?=(H[es.length+k]?).map (kas ρ n0)
 |[],H,h,k,_=>by
  simp only[kc9,List.length_nil,Nat.zero_add];rw[List.getElem?_append_right (by omega)];simp
 |(b,o)::es,[],h,k,hl=>by simp at hl
 |(b,o)::es,B::H,h,k,hl=>by
  simp only[kc9];have:=khi (ρ:=ρ) (n0:=n0) es H (if own B then h.set b (kas ρ n0 B) else h) k (by simpa using hl);have hlen:(if own B then h.set b (kas ρ n0 B) else h).length=h.length:=by split<;>simp
  rw[hlen] at this;rw[this];have:(b,o)::es=[(b,o)]++es:=rfl;simp[Nat.succ_add]
theorem khj {ρ:List (Nat×Ix)} {n0:Nat}:∀(es:List (Nat×Ix)) (H h:List SB),es.length≤H.length→(kc9 ρ n0 es H h).length=h.length+(H.length-es.length)
 |[],H,h,_=>by simp[kc9]
 |(b,o)::es,[],h,hl=>by simp at hl
 |(b,o)::es,B::H,h,hl=>by
  simp only[kc9];have hlen:(if own B then h.set b (kas ρ n0 B) else h).length=h.length:=by split<;>simp
  rw[khj es H _ (by simpa using hl),hlen];simp
theorem kex {ρ:List (Nat×Ix)} {n0:Nat}:∀(es:List (Nat×Ix)) (H h:List SB) (b:Nat),b<h.length→(∀(i:Nat) (e:Nat×Ix) (B:SB),es[i]?=some e→H[i]?=some B→own B=true→e.1≠b)→(kc9 ρ n0 es H h)[b]?=h[b]?
 |[],H,h,b,hb,_=>by simp only[kc9];rw[List.getElem?_append_left hb]
 |(c,o)::es,[],h,b,hb,_=>rfl
 | (c,o)::es,B::H,h,b,hb,hn=>by
  simp only[kc9];have hlen:(if own B then h.set c (kas ρ n0 B) else h).length=h.length:=by split<;>simp
  rw[kex es H _ b (by rw[hlen];exact hb) (fun i e C he hC ho=>hn (i+1) e C (by simpa using he) (by simpa using hC) ho)];split
  ·rename_i hB;have:=hn 0 (c,o) B (by simp) (by simp) hB;rw[List.getElem?_set_ne this]
  ·rfl
theorem khk {ρ:List (Nat×Ix)} {n0:Nat}:∀(es:List (Nat×Ix)) (H h:List SB) (i:Nat) (e:Nat×Ix) (B:SB),es[i]?=some e→H[i]?=some B→own B=true→e.1<h.length →
  (∀(j:Nat) (e':Nat×Ix) (C:SB),j≠i→es[j]?=some e'→H[j]?=some C→own C=true→e'.1≠e.1)→(kc9 ρ n0 es H h)[e.1]?=some (kas ρ n0 B)
 |[],H,h,i,e,B,he,_,_,_,_=>by simp at he
 |(c,o)::es,[],h,i,e,B,_,hB,_,_,_=>by simp at hB
 | (c,o)::es,A::H,h,i,e,B,he,hB,ho,hb,hn=>by
  simp only[kc9];have hlen:(if own A then h.set c (kas ρ n0 A) else h).length=h.length:=by split<;>simp
  cases i with
  |zero=>
   simp at he hB;subst he;subst hB
   rw[if_pos ho,kex es H _ c (by simpa using hb) (fun j e' C he' hC hoC=>hn (j+1) e' C (by omega) (by simpa using he') (by simpa using hC) hoC)];rw[List.getElem?_set_self hb]
  |succ i=>
   simp at he hB
   exact khk es H _ i e B he hB ho (by rw[hlen];exact hb) (fun j e' C hj he' hC hoC=>hn (j+1) e' C (by omega) (by simpa using he') (by simpa using hC) hoC)
theorem khl {σ':Names} {n:Nat} {R:List Nat} (hσ:∀i,i<n→i∉R→σ' i=σ i) {v:SV} (hs:scV n v=true) (hm:men R v=false):den σ' v=den σ v:=by
 let σ1:Names:=fun i=>if i<n then σ' i else σ i
 have h1:∀i,i∉R→σ1 i=σ i:=fun i hi=>by
  simp only[σ1];split
  ·exact hσ i (by assumption) hi
  ·rfl
 rw[←kab h1 v hm];exact kc5 (fun i hi=>by simp only[σ1];rw[if_pos hi]) v hs
theorem kkr {σ':Names} {n:Nat} {R:List Nat} {w':World} {B:SB} {i:Nat} (hB:s.h[i]?=some B) (hσ:∀i,i<n→i∉R→σ' i=σ i) (hs:scB n B True) (hm:kd0 R B True) (h:holds P σ (σ i) w B)
  (hw:∀q,σ i=some q→w'.heap[q.1]?=w.heap[q.1]?):holds P σ' (σ i) w' (kfX R (k9 σ s (i+1)) B):=by
 cases B
 case one t row=>
  obtain⟨g,hg,hh⟩:=h;refine⟨g,hg,?_⟩
  simp only[scB] at hs;split at hs
  rotate_left
  ·exact hs.elim
  rename_i hs';rw[hw _ hg,hh];have:k9 σ s (i+1)=fun k=>den σ (row.getD k .undef):=by funext k;simp[k9,hB]
  rw[this,qI hs' hσ]
 case bufR t sz row c=>
  simp only[scB] at hs;split at hs
  rotate_left
  ·exact hs.elim
  rename_i hs';have e:k9 σ s (i+1)=fun k=>den σ (row.getD k .undef):=by funext k;simp[k9,hB]
  have hden:denL σ' (ka6 R (k9 σ s (i+1)) 0 row)=denL σ row:=by rw[e,qI hs' hσ]
  rcases h with⟨h1,h2,h3⟩|⟨g,rest,hg,hh,hc⟩
  ·subst h2;exact .inl ⟨h1,rfl,h3⟩
  ·exact .inr ⟨g,rest,hg,by rw[hw _ hg,hh,hden],by rw[hden];exact hc⟩
 case loop st pe t ps a c=>
  obtain⟨g,fn,ca,cb,d,hg,h1,h2,hfn,hh⟩:=h;refine⟨g,fn,ca,cb,d,hg,h1,h2,hfn,?_⟩
  simp only[scB] at hs;split at hs
  rotate_left
  ·exact hs.elim
  rename_i hs';rw[hw _ hg,hh];have:k9 σ s (i+1)=fun k=>den σ (t.getD k .undef):=by funext k;simp[k9,hB]
  rw[this,qI hs' hσ]
 all_goals refine kbB h (fun q hq _=>hw q hq) (fun q hq _=>hw q hq) ⟨fun _ _ e=>(by cases e),fun t sz len f i j v e hv=>?_,fun sz len f i j v e hv=>?_,fun _ _ _ _ _ _ e=>(by cases e),fun _ _ _ _ e=>(by cases e)⟩<;>simp only[scB] at hs<;>first|(rcases e with e|⟨c,e⟩<;>cases e<;>done)|(cases e;done)|(rcases e with e|⟨c,e⟩<;>cases e;exact khl hσ (kaL (hs.1 _) hv) (qN (hm.1 _) hv))|(cases e;exact khl hσ (kaL (hs.1 _) hv) (qN (hm.1 _) hv))

structure At (P:Program) (σ:Names) (s:SS) (w:World) (ρ:List (Nat×Ix)) (H:List SB):Prop where
 len:ρ.length=H.length
 fit:∀(i:Nat) (B:SB),H[i]?=some B→∃e C,ρ[i]?=some e∧s.h[e.1]?=some C∧Sx.fit ρ s.h.length e.2 B C∧okB ρ s.h.length B True
 apart:∀(i j:Nat) (e e':Nat×Ix) (B C:SB),i≠j→ρ[i]?=some e→ρ[j]?=some e'→H[i]?=some B→H[j]?=some C→(own B=true∨own C=true)→e.1≠e'.1
theorem ji {ρ:List (Nat×Ix)} {n0 i:Nat} {e:Nat×Ix} (h:ρ[i]?=some e):rn ρ n0 i=e:=by simp[rn,h]
theorem klK {ρ:List (Nat×Ix)} {n0 i:Nat} (h:ρ.length≤i):rn ρ n0 i=(n0+(i-ρ.length),.z):=by simp[rn,List.getElem?_eq_none h]
theorem At.ok {ρ:List (Nat×Ix)} {H:List SB} (hok:Ok P σ s w) (h:At P σ s w ρ H):Ok P (cut ρ s.h.length σ) (small H []) w:=by
 refine⟨⟨fun i p hi hp=>?_,fun i j B C p q hij hB hC ho hp hq=>?_,fun i B hB=>?_,(fun l hl=>by cases hl),(fun l hl=>by cases hl)⟩,Cold.nil rfl⟩
 ·obtain⟨e,C,he,hC,_⟩:=h.fit i H[i] (List.getElem?_eq_getElem hi);simp only[cut,ji he,Option.map_eq_some_iff] at hp;obtain⟨q,hq,rfl⟩:=hp;exact hok.lt e.1 q (List.getElem?_eq_some_iff.1 hC).1 hq
 ·obtain⟨e,B',he,hB',hf,_⟩:=h.fit i B hB;obtain⟨e',C',he',hC',hf',_⟩:=h.fit j C hC;simp only[cut,ji he,ji he',Option.map_eq_some_iff] at hp hq;obtain⟨p,hp,rfl⟩:=hp;obtain⟨q,hq,rfl⟩:=hq;refine hok.ne e.1 e'.1 B' C' p q (h.apart i j e e' B C hij he he' hB hC ho) hB' hC' ?_ hp hq
  rcases ho with ho|ho
  ·left;rw[(kae hf ho).1];exact ho
  ·right;rw[(kae hf' ho).1];exact ho
 ·obtain⟨e,C,he,hC,hf,hb⟩:=h.fit i B hB;have hblk:=hok.blk e.1 C hC;have key:q7 C=q7 (kas ρ s.h.length B)∧isZ e.2=true→holds P (cut ρ s.h.length σ) (cut ρ s.h.length σ i) w B:=by
   rintro⟨hg,hz⟩;have:cut ρ s.h.length σ i=σ e.1:=by
    simp only[cut,ji he,kbC hz,Nat.add_zero];cases σ e.1<;>rfl
   rw[this];exact(kbD (fun _=>rfl) hb).1 (holds_gen.1 (hg▸holds_gen.2 hblk))
  cases B
  case free=>exact hf.elim
  case ro k l=>
   have hcut:∀q,σ e.1=some q→cut ρ s.h.length σ i=some (q.1,q.2+ixN e.2):=fun q hq=>by simp[cut,ji he,hq]
   have hcut0:σ e.1=none→cut ρ s.h.length σ i=none:=fun hq=>by simp[cut,ji he,hq]
   cases C<;>simp only[Sx.fit] at hf
   case ro k' l'=>
    obtain⟨rfl,hv⟩:=hf;obtain⟨hv1,hv2⟩:=hv.out;rcases hblk with⟨h0,rfl⟩|⟨g,o,hg,hc⟩
    ·exact .inl ⟨hcut0 h0,by simp at hv1;exact hv1.2⟩
    ·refine .inr ⟨g,o+ixN e.2,hcut _ hg,fun j hj=>?_⟩
     rw[hv2 j hj,Nat.add_assoc];exact hc (ixN e.2+j) (by omega)
   case ints t k' l'=>
    obtain⟨rfl,hv⟩:=hf;obtain⟨hv1,hv2⟩:=hv.out;obtain⟨g,hg,hh⟩:=hblk;refine .inr ⟨g,0+ixN e.2,hcut _ hg,fun j hj=>?_⟩
    rw[hv2 j hj];have hj':ixN e.2+j<l'.length:=by omega
    simp[World.cell?,hh,hj',List.getD]
   case buf t k' l' c=>
    obtain⟨rfl,hv⟩:=hf;obtain⟨hv1,hv2⟩:=hv.out;rcases hblk with⟨h0,rfl,_⟩|⟨g,l'',hg,hh,_⟩
    ·exact .inl ⟨hcut0 h0,by simp at hv1;exact hv1.2⟩
    ·refine .inr ⟨g,0+ixN e.2,hcut _ hg,fun j hj=>?_⟩
     rw[hv2 j hj];have hj':ixN e.2+j<l'.length:=by omega
     have hj'':ixN e.2+j<(l'++l'').length:=by simp;omega
     simp[World.cell?,hh,hj',List.getD]
     rw[List.getElem?_append_left (by simpa using hj')];simp[hj']
  case roA sz len f=>
   have rows:∀(t:TypeId) (len':Nat) (g:Nat→List SV) (q:Nat×Nat) (cs:Array Value),σ e.1=some q→q.2=0→len≤len'→(g=fun i=>renL ρ s.h.length (f i))→isZ e.2=true→w.heap[q.1]?=some (.cells cs t (0,0)) →
     (∀i,i<len'→(g i).length=sz∧∀(j:Nat) (v:SV),(g i)[j]?=some v→cs[i*sz+j]?=some (den σ v))→holds P (cut ρ s.h.length σ) (cut ρ s.h.length σ i) w (.roA sz len f):=by
    rintro t len' g ⟨gb,o⟩ cs hq rfl hle rfl hz hh hf4;have hcut:cut ρ s.h.length σ i=some (gb,0):=by simp[cut,ji he,hq,kbC hz]
    refine .inr ⟨gb,0,hcut,fun k hk=>⟨by rw[←kbh ρ s.h.length];exact(hf4 k (by omega)).1,fun j v hv=>?_⟩⟩
    rw[kj hh,Nat.zero_add,(hf4 k (by omega)).2 j (ren ρ s.h.length v) (by rw[qv,hv];rfl)];rw[jS ρ s.h.length σ (cut ρ s.h.length σ) (fun _=>rfl) v (kad (hb.1 k) hv)]
   cases C
   case arr t' sz' len' g=>
    obtain⟨⟨rfl,h2,h3⟩,hz⟩:=hf;obtain⟨gb,cs,hg,hh,_,hf4⟩:=hblk;exact rows t' len' g _ cs hg rfl h2.out h3 hz hh hf4
   case bufA t' sz' len' g c'=>
    obtain⟨⟨rfl,h2,h3⟩,hz⟩:=hf;rcases hblk with⟨h0,rfl,_⟩|⟨gb,cs,hg,hh,_,_,hf4⟩
    ·exact .inl ⟨by simp[cut,ji he,h0],by have:=h2.out;omega⟩
    ·exact rows t' len' g _ cs hg rfl h2.out h3 hz hh hf4
   all_goals exact key ⟨by rw[hf.1];rfl,hf.2⟩
  all_goals exact key hf

def pick (ρ:List (Nat×Ix)) (n0:Nat) (R:List Nat) (b:Nat):Option Nat:=(kcB ρ.length R).find? fun i=>(rn ρ n0 i).1==b
def join (ρ:List (Nat×Ix)) (n0:Nat) (R:List Nat) (σ σc:Names):Names:=fun b=>
 if b<n0 then match pick ρ n0 R b with
  |some i=>σc i
  |none=>σ b
 else σc (b-n0+ρ.length)
theorem kks {ρ:List (Nat×Ix)} {n0:Nat} {R:List Nat} {b:Nat} (h:b∉rR ρ n0 (kcB ρ.length R)):pick ρ n0 R b=none:=by
 unfold pick;rw[List.find?_eq_none];intro i hi;simp only[beq_iff_eq];intro e;exact h (List.mem_map.2 ⟨i,hi,e⟩)
theorem At.pick_own {ρ:List (Nat×Ix)} {H:List SB} {R:List Nat} {n0:Nat} (h:At P σ s w ρ H) (hR:kb7 H R=true) {i:Nat} (hi:i<ρ.length) {j:Nat} (hp:pick ρ n0 R (rn ρ n0 i).1=some j):j=i∧i∈R:=by
 have h1:=List.find?_some hp;have h2:=mem_rOld.1 (List.mem_of_find?_eq_some hp);simp only[beq_iff_eq] at h1;have hj:j<H.length:=by rw[←h.len];exact h2.2
 have hi':i<H.length:=by rw[←h.len];exact hi
 have ho:=kaf hR j h2.1 H[j] (List.getElem?_eq_getElem hj);have hij:j=i:=by
  refine Classical.byContradiction fun hne=>?_
  rw[ji (List.getElem?_eq_getElem h2.2),ji (List.getElem?_eq_getElem hi)] at h1;exact h.apart j i _ _ _ _ hne (List.getElem?_eq_getElem h2.2) (List.getElem?_eq_getElem hi) (List.getElem?_eq_getElem hj) (List.getElem?_eq_getElem hi') (.inl ho) h1
 subst hij;exact⟨rfl,h2.1⟩
theorem khm {ρ:List (Nat×Ix)} {cargs args:List SV} {H H':List SB} {R:List Nat} {v:SV} {K:SV→SS→Prop} {σ σc:Names} {w w':World} (hm:knK s ρ cargs args H) (hok:Ok P σ s w)
  (hok':Ok P σc (small H' R) w') (hst:Step (cut ρ s.h.length σ) (small H []) w σc (small H' R) w') (hB:kiP ρ H H' R (k9 σ s) v s K) :
  ∃σ' s',Ok P σ' s' w'∧Step σ s w σ' s' w'∧act σ' s'=act σ s∧∃v',K v' s'∧den σc v=den σ' v':=by
 obtain⟨ha,hav,hap,hsc⟩:=hm;obtain⟨hfits,hscS⟩:=jp hsc;obtain⟨hlen,_,hfit⟩:=kda hfits;have hat:At P σ s w ρ H:=⟨hlen,hfit,kbj hap⟩;have hst0:scL s.h.length s.t=true:=klw hscS;have hsh:∀(i:Nat) (B:SB),s.h[i]?=some B→scB s.h.length B True:=by
  unfold scS at hscS;rw[if_pos hst0] at hscS;exact(kf8 hscS).2
 unfold kiP at hB;split at hB
 rotate_left
 ·exact hB.elim
 rename_i hch;simp only[Bool.and_eq_true] at hch;obtain⟨⟨hoA,hrO⟩,hvO⟩:=hch;obtain⟨hB,hokH⟩:=khg hB;obtain⟨hB,hmen⟩:=qM hB;obtain⟨hB,hkd⟩:=jE hB;obtain⟨hB,hkr⟩:=jU hB;obtain⟨hA1,hA2,hA3⟩:=kb8 hoA;generalize hRR:rR ρ s.h.length (kcB ρ.length R)=RR at *;generalize hn0:s.h.length=n0 at *;generalize hσ':join ρ n0 R σ σc=σ' at *
 -- the names
 have hkeep:∀b,b<n0→b∉RR→σ' b=σ b:=fun b hb hr=>by
  rw[←hσ'];unfold join
  rw[if_pos hb,kks (by rw[hRR];exact hr)]
 have hlt_of:∀{i:Nat} {e:Nat×Ix},ρ[i]?=some e→e.1<n0:=fun {i e} he=>by
  have hi:i<H.length:=by rw[←hlen];exact(List.getElem?_eq_some_iff.1 he).1
  obtain⟨e',C,he',hC,_⟩:=hfit i H[i] (List.getElem?_eq_getElem hi);rw[he] at he';cases he'
  rw[←hn0];exact(List.getElem?_eq_some_iff.1 hC).1
 have hcut:∀i,σc i=cut ρ n0 σ' i:=fun i=>by
  by_cases hi:i<ρ.length
  ·have hiH:i<H.length:=by rw[←hlen];exact hi
   have he:ρ[i]?=some ρ[i]:=List.getElem?_eq_getElem hi;obtain⟨e',C,he',hC,hf,_⟩:=hfit i H[i] (List.getElem?_eq_getElem hiH);have hee:e'=ρ[i]:=by rw[he] at he';exact(Option.some.inj he').symm
   subst hee;have hb:=hlt_of he;by_cases hr:i∈R
   ·have ho:=kaf hrO i hr H[i] (List.getElem?_eq_getElem hiH);have hz:=(kae hf ho).2;have hσb:σ' (ρ[i]).1=σc i:=by
     rw[←hσ'];unfold join
     rw[if_pos hb];cases hp:pick ρ n0 R (ρ[i]).1 with
     |none=>
      exfalso
      unfold pick at hp;rw[List.find?_eq_none] at hp;exact hp i (mem_rOld.2 ⟨hr,hi⟩) (by simp[ji he])
     |some j=>
      have:pick ρ n0 R (rn ρ n0 i).1=some j:=by rw[ji he];exact hp
      obtain⟨rfl,_⟩:=hat.pick_own hrO hi this;rfl
    simp only[cut,ji he,hσb,kbC hz,Nat.add_zero];cases σc i<;>rfl
   ·have h1:=hst.names i hiH hr;rw[h1];have hσb:σ' (ρ[i]).1=σ (ρ[i]).1:=by
     rw[←hσ'];unfold join
     rw[if_pos hb];cases hp:pick ρ n0 R (ρ[i]).1 with
     |none=>rfl
     |some j=>
      have:pick ρ n0 R (rn ρ n0 i).1=some j:=by rw[ji he];exact hp
      exact absurd (hat.pick_own hrO hi this).2 hr
    simp only[cut,ji he,hσb]
  ·have hi':ρ.length≤i:=by omega
   have hσb:σ' (n0+(i-ρ.length))=σc i:=by
    rw[←hσ'];unfold join
    rw[if_neg (by omega)];congr 1;omega
   simp only[cut,klK hi',hσb,ixN,Nat.add_zero];cases σc i<;>rfl
 -- the blocks
 have hlenH:ρ.length≤H'.length:=by omega
 have hsl:(ka7 RR (k9 σ s) 0 s.h).length=n0:=by rw[khh,hn0]
 have hML:(mrg ρ H' RR (k9 σ s) s).h.length=n0+(H'.length-ρ.length):=by simp only[mrg];rw[khj ρ H' _ hlenH,hsl]
 have hold:∀b,b<n0→(∀(i:Nat) (e:Nat×Ix) (B:SB),ρ[i]?=some e→H[i]?=some B→own B=true→e.1≠b)→(mrg ρ H' RR (k9 σ s) s).h[b]?=(s.h[b]?).map (kfX RR (k9 σ s (b+1))):=by
  intro b hb hno;simp only[mrg];rw[kex ρ H' _ b (by rw[hsl];exact hb) (fun i e B he hB' ho=>?_),kee]
  ·simp
  ·have hiH:i<H.length:=by rw[←hlen];exact(List.getElem?_eq_some_iff.1 he).1
   exact hno i e H[i] he (List.getElem?_eq_getElem hiH) (by rw[hA2 i _ B (List.getElem?_eq_getElem hiH) hB'];exact ho)
 have hset:∀(i:Nat) (e:Nat×Ix) (B:SB),ρ[i]?=some e→H[i]?=some B→own B=true→∃B',H'[i]?=some B'∧own B'=true∧(mrg ρ H' RR (k9 σ s) s).h[e.1]?=some (kas ρ n0 B'):=by
  intro i e B he hB' ho;have hiH:i<H.length:=(List.getElem?_eq_some_iff.1 hB').1;have hiH':i<H'.length:=by omega
  have ho':own H'[i]=true:=by rw[←hA2 i B _ hB' (List.getElem?_eq_getElem hiH')];exact ho
  refine⟨H'[i],List.getElem?_eq_getElem hiH',ho',?_⟩
  simp only[mrg];have:=khk (ρ:=ρ) (n0:=n0) ρ H' (ka7 RR (k9 σ s) 0 s.h) i e H'[i] he (List.getElem?_eq_getElem hiH') ho' (by rw[hsl];exact hlt_of he) (fun j e' C hj he' hC hoC=>by
   have hjH:j<H.length:=by rw[←hlen];exact(List.getElem?_eq_some_iff.1 he').1
   exact hat.apart j i e' e H[j] B hj he' he (List.getElem?_eq_getElem hjH) hB' (.inr ho))
  rw[hn0];exact this
 have hnew:∀k,(mrg ρ H' RR (k9 σ s) s).h[n0+k]?=(H'[ρ.length+k]?).map (kas ρ n0):=fun k=>by
  simp only[mrg];have:=khi (ρ:=ρ) (n0:=n0) ρ H' (ka7 RR (k9 σ s) 0 s.h) k hlenH;rw[hsl] at this;rw[hn0];exact this
 -- each name is the caller's own, or the contract's
 have hcls:∀(b:Nat) (B:SB),(mrg ρ H' RR (k9 σ s) s).h[b]?=some B →
   (∃i B',H'[i]?=some B'∧own B'=true∧B=kas ρ n0 B'∧σ' b=σc i∧(rn ρ n0 i).1=b∧(i<ρ.length→∃C,H[i]?=some C∧own C=true)) ∨
   (b<n0∧(∀(i:Nat) (e:Nat×Ix) (C:SB),ρ[i]?=some e→H[i]?=some C→own C=true→e.1≠b)∧∃C,s.h[b]?=some C∧B=kfX RR (k9 σ s (b+1)) C∧σ' b=σ b):=by
  intro b B hb;by_cases hlt:b<n0
  ·by_cases hno:∀(i:Nat) (e:Nat×Ix) (C:SB),ρ[i]?=some e→H[i]?=some C→own C=true→e.1≠b
   ·right
    refine⟨hlt,hno,?_⟩
    rw[hold b hlt hno] at hb;simp only[Option.map_eq_some_iff] at hb;obtain⟨C,hC,rfl⟩:=hb;refine⟨C,hC,rfl,hkeep b hlt (fun hr=>?_)⟩
    rw[←hRR] at hr;obtain⟨i,hi,e⟩:=List.mem_map.1 hr;obtain⟨hi1,hi2⟩:=mem_rOld.1 hi;have hiH:i<H.length:=by rw[←hlen];exact hi2
    rw[ji (List.getElem?_eq_getElem hi2)] at e;exact hno i _ H[i] (List.getElem?_eq_getElem hi2) (List.getElem?_eq_getElem hiH) (kaf hrO i hi1 _ (List.getElem?_eq_getElem hiH)) e
   ·left
    have:∃(i:Nat) (e:Nat×Ix) (C:SB),ρ[i]?=some e∧H[i]?=some C∧own C=true∧e.1=b:=by
     refine Classical.byContradiction fun hc=>hno fun i e C h1 h2 h3 h4=>hc ⟨i,e,C,h1,h2,h3,h4⟩
    obtain⟨i,e,C,he,hC,ho,rfl⟩:=this;obtain⟨B',hB',hoB,hs⟩:=hset i e C he hC ho;rw[hb] at hs;have hf:=hfit i C hC;obtain⟨e',C',he',_,hf,_⟩:=hf;rw[he] at he';cases he'
    refine⟨i,B',hB',hoB,Option.some.inj hs,?_,by rw[ji he],fun _=>⟨C,hC,ho⟩⟩
    rw[hcut i];simp only[cut,ji he,kbC (kae hf ho).2,Nat.add_zero];cases σ' e.1<;>rfl
  ·left
   have hb':b=n0+(b-n0):=by omega
   rw[hb',hnew] at hb;simp only[Option.map_eq_some_iff] at hb;obtain⟨B',hB',rfl⟩:=hb;have hrn:rn ρ n0 (ρ.length+(b-n0))=(b,.z):=by rw[klK (by omega)];congr 1;omega
   refine⟨ρ.length+(b-n0),B',hB',hA3 _ B' (by omega) hB',rfl,?_,by rw[hrn],fun h=>by omega⟩
   rw[hcut];simp only[cut,hrn,ixN,Nat.add_zero];cases σ' b<;>rfl
 -- a block of the contract's own is far from the caller's others
 have hfar:∀(i:Nat) (B':SB) (p:Nat×Nat) (b:Nat) (C:SB) (q:Nat×Nat),H'[i]?=some B'→own B'=true→σc i=some p→(∀(k:Nat) (e:Nat×Ix) (A:SB),ρ[k]?=some e→H[k]?=some A→own A=true→e.1≠b) →
   s.h[b]?=some C→σ b=some q→p.1≠q.1:=by
  intro i B' p b C q hB' ho hp hno hC hq heq;have hql:=hok.lt b q (List.getElem?_eq_some_iff.1 hC).1 hq;obtain⟨k,A,r,hk,hA,hr,he⟩:=hst.own i B' p hB' ho hp (by omega);have hk':H[k]?=some A:=hk;obtain⟨e',C',he',hC',hf,_⟩:=hfit k A hk';simp only[cut,ji he',Option.map_eq_some_iff] at hr;obtain⟨r',hr',rfl⟩:=hr;have hne:=hno k e' A he' hk' hA;refine hok.ne e'.1 b C' C r' q hne hC' hC (.inl ?_) hr' hq (by simp only at he;omega)
  rw[(kae hf hA).1];exact hA
 have hmk:∀l,l∈s.d→l<n0:=fun l hl=>by rw[←hn0];exact(List.getElem?_eq_some_iff.1 (hok.marks l hl).2).1
 suffices hz:Ok0 P σ' (mrg ρ H' RR (k9 σ s) s) w'∧Step σ s w σ' (mrg ρ H' RR (k9 σ s) s) w'∧act σ' (mrg ρ H' RR (k9 σ s) s)=act σ s∧den σc v=den σ' (ren ρ n0 v) from
  ⟨σ',mrg ρ H' RR (k9 σ s) s,⟨hz.1,hok.cold.step hz.2.1 rfl⟩,hz.2.1,hz.2.2.1,⟨ren ρ n0 v,hB,hz.2.2.2⟩⟩
 refine⟨?_,?_,?_,?_⟩
 ·refine⟨fun b p hb hp=>?_,fun b b' B C p q hbb hb hb' ho hp hq=>?_,fun b B hb=>?_,fun l hl=>⟨?_,(hkd l hl).2⟩,fun l hl=>⟨?_,(hkr l hl).2⟩⟩
  ·obtain⟨B,hB'⟩:∃B,(mrg ρ H' RR (k9 σ s) s).h[b]?=some B:=⟨_,List.getElem?_eq_getElem hb⟩;rcases hcls b B hB' with⟨i,B',hi,_,_,hs,_⟩|⟨hlt,_,C,hC,_,hs⟩
   ·rw[hs] at hp;exact hok'.lt i p (List.getElem?_eq_some_iff.1 hi).1 hp
   ·rw[hs] at hp;exact Nat.lt_of_lt_of_le (hok.lt b p (List.getElem?_eq_some_iff.1 hC).1 hp) hst.size
  ·rcases hcls b B hb with⟨i,B',hi,hoB,rfl,hs,hr,_⟩|⟨hlt,hno,C0,hC0,rfl,hs⟩<;>rcases hcls b' C hb' with⟨j,C',hj,hoC,rfl,hs',hr',_⟩|⟨hlt',hno',D0,hD0,rfl,hs'⟩<;>rw[hs] at hp<;>rw[hs'] at hq
   ·exact hok'.ne i j B' C' p q (fun e=>hbb (by rw[←hr,←hr',e])) hi hj (.inl hoB) hp hq
   ·exact hfar i B' p b' D0 q hi hoB hp hno' hD0 hq
   ·exact(hfar j C' q b C0 p hj hoC hq hno hC0 hp).symm
   ·exact hok.ne b b' C0 D0 p q hbb hC0 hD0 (by rw[kcw,kcw] at ho;exact ho) hp hq
  ·rcases hcls b B hb with⟨i,B',hi,hoB,rfl,hs,_⟩|⟨hlt,hno,C,hC,rfl,hs⟩
   ·rw[hs];exact(kbD hcut (hokH i B' hi)).2 (hok'.blk i B' hi)
   ·rw[hs];refine kkr hC (n:=n0) hkeep (hsh b C hC) (hmen b C hC) (hok.blk b C hC) (fun q hq=>?_)
    refine hst.far q.1 (hok.lt b q (List.getElem?_eq_some_iff.1 hC).1 hq) (fun k A r hk hA hr=>?_)
    have hk':H[k]?=some A:=hk;obtain⟨e',C',he',hC',hf,_⟩:=hfit k A hk';simp only[cut,ji he',Option.map_eq_some_iff] at hr;obtain⟨r',hr',rfl⟩:=hr;refine hok.ne e'.1 b C' C r' q (hno k e' A he' hk' hA) hC' hC (.inl ?_) hr' hq
    rw[(kae hf hA).1];exact hA
  ·intro hm;rcases mem_addAll.1 hm with hm|hm
   ·exact(hkd l hl).1 hm
   ·exact(hok.marks l hl).1 hm
  ·intro hm;rcases mem_addAll.1 hm with hm|hm
   ·exact(hkr l hl).1 hm
   ·exact(hok.rnd l hl).1 hm
 ·refine⟨hst.size,hst.os,hst.tape,hst.output,fun k hk hf=>hst.far k hk (fun i B p hi hoB hp=>?_),by rw[hML,hn0];omega,fun b hb hr=>hkeep b (by rw[←hn0];exact hb) (fun hm=>hr (mem_addAll.2 (.inl hm))),fun i hi=>mem_addAll.2 (.inr hi),fun b B p hb hoB hp hlt=>?_,rfl⟩
  ·have hi':H[i]?=some B:=hi;obtain⟨e',C',he',hC',hfi,_⟩:=hfit i B hi';simp only[cut,ji he',Option.map_eq_some_iff] at hp;obtain⟨p',hp',rfl⟩:=hp;refine hf e'.1 C' p' hC' ?_ hp'
   rw[(kae hfi hoB).1];exact hoB
  ·rcases hcls b B hb with⟨i,B',hi,hoB',rfl,hs,_⟩|⟨hltb,hno,C,hC,rfl,hs⟩
   ·rw[hs] at hp;obtain⟨k,A,r,hk,hA,hr,he⟩:=hst.own i B' p hi hoB' hp hlt;have hk':H[k]?=some A:=hk;obtain⟨e',C',he',hC',hfi,_⟩:=hfit k A hk';simp only[cut,ji he',Option.map_eq_some_iff] at hr;obtain⟨r',hr',rfl⟩:=hr;refine⟨e'.1,C',r',hC',?_,hr',he⟩
    rw[(kae hfi hA).1];exact hA
   ·rw[hs] at hp;exact⟨b,C,p,hC,by rw[kcw] at hoB;exact hoB,hp,rfl⟩
 ·unfold act;simp only[mrg];have:k9 σ s 0=fun k=>den σ (s.t.getD k .undef):=by funext k;simp[k9]
  rw[this,qI hst0 hkeep];congr 1
  refine congrArg (·++s.x) (List.map_congr_left ?_)
  intro l hl;unfold mark;rw[hkeep l (hmk l hl) (hkd l hl).1]
 ·exact(jS ρ n0 σ' σc hcut v hvO).symm
theorem ka {f:Nat} {ρ:List (Nat×Ix)} {cargs args:List SV} {H:List SB} {kP:SV→List SB→List Nat→Prop} {K:SV→SS→Prop} {X:XE→SS→Prop} (c:Con P f cargs H kP) (hm:knK s ρ cargs args H)
  (hK:∀v H' R js,kP v H' R→kiP ρ H H' R js v s K):CallX P f args s K X:=by
 obtain⟨ha,hav,hap,hsc⟩:=hm;refine⟨c.go,fun σ w hok=>?_⟩
 obtain⟨hfits,hscS⟩:=jp hsc;obtain⟨hlen,_,hfit⟩:=kda hfits;have hat:At P σ s w ρ H:=⟨hlen,hfit,kbj hap⟩;have hargs:denL σ args=denL (cut ρ s.h.length σ) cargs:=by rw[←den_genL,ha,den_genL];exact den_renL ρ _ σ _ (fun _=>rfl) cargs hav
 rw[hargs];have hcall:CallsIn (FR P (rOf σ s)) 0 P f (denL (cut ρ s.h.length σ) cargs).toArray w (km0 P (cut ρ s.h.length σ) H w kP):=c.out _ w (hat.ok hok);refine hcall.mono ?_
 rintro e w' ⟨σc,v,H',R,hP,rfl,hok',hst⟩;obtain⟨σ',s',h1,h2,h3,v',h4,h5⟩:=khm ⟨ha,hav,hap,hsc⟩ hok hok' hst (hK v H' R (k9 σ s) hP);exact⟨σ',s',h1,h2,h3,v',h4,h5⟩
end
end Go.Sx
