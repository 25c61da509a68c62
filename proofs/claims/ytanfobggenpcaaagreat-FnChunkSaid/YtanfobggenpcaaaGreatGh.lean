import Derived.Test.YtanfobggenpcaaaGreatGd
import Derived.Test.YtanfobggenpcaaaGreatGg
set_option maxRecDepth 100000
set_option linter.unusedSimpArgs false
set_option linter.unusedVariables false
namespace Go.Eng.F
structure aW where
 kind:Int
 vote:bu
 qc:Qc
 head:Head
 block:Block
 tc:Tc
 proof:Proof
 incl:bo
def aW.c (m:aW):List D:= [.int .i64 m.kind, .int .i64 m.vote.view, .int .i64 m.vote.height, .sl (bytes m.vote.block), .int .i64 m.vote.who, .sl (bytes m.vote.tag), .int .i64 m.qc.view, .int .i64 m.qc.height, .sl (bytes m.qc.block), .sl (bytes m.qc.bits), .sl (bH m.qc.tags), .int .i64 m.head.view, .int .i64 m.head.height, .int .i64 m.head.proposer, .sl (bytes m.head.parent), .sl (bytes m.head.root), .int .i64 m.head.qc.view, .int .i64 m.head.qc.height, .sl (bytes m.head.qc.block), .sl (bytes m.head.qc.bits), .sl (bH m.head.qc.tags), .int .i64 m.block.head.view, .int .i64 m.block.head.height, .int .i64 m.block.head.proposer, .sl (bytes m.block.head.parent), .sl (bytes m.block.head.root), .int .i64 m.block.head.qc.view, .int .i64 m.block.head.qc.height, .sl (bytes m.block.head.qc.block), .sl (bytes m.block.head.qc.bits), .sl (bH m.block.head.qc.tags), .sl (bH m.block.txs), .int .i64 m.tc.view, .sl (lU m.tc.entries), .sl (f6 m.proof.heads), .int .i64 m.proof.qc.view, .int .i64 m.proof.qc.height, .sl (bytes m.proof.qc.block), .sl (bytes m.proof.qc.bits), .sl (bH m.proof.qc.tags), .int .i64 m.incl.height, .int .i64 m.incl.n, .int .i64 m.incl.idx, .sl (bytes m.incl.tx), .sl (bH m.incl.path)]
def Block.wx (x:Block):Prop:=x.wc∧∀t∈x.txs,t.length≤100000000
structure aW.wc (m:aW):Prop where
 kind:nQ m.kind
 vote:m.vote.wf
 qc:m.qc.wc
 head:m.head.wc
 block:m.block.wx
 tc:m.tc.wf
 proof:m.proof.wc
 incl:m.incl.wc
 tx:m.incl.tx.length≤100000000
def bI:bu:=⟨0,0,[],0,[]⟩
def gm:Qc:=⟨0,0,[],[],[]⟩
def bm:Head:=⟨0,0,0,[],[],gm⟩
def aF:Block:=⟨bm,[]⟩
def iW:Tc:=⟨0,[]⟩
def aK:Proof:=⟨[],gm⟩
def bD:bo:=⟨0,0,0,[],[]⟩
def au:aW:=⟨0,bI,gm,bm,aF,iW,aK,bD⟩
theorem c9:au.wc:=by
 constructor <;>simp[au,bI,gm,bm,aF,iW,aK,bD,nQ,Sz,bu.wf,Qc.wc,Qc.wf,Head.wc,Head.wf,Block.wx,Block.wc,rk,Tc.wf,Proof.wc,Proof.wf,vR,bo.wc]
def jc (a b:aW):Bool:=decide (a.kind=b.kind) && im a.vote b.vote && lR a.qc b.qc && dX a.head b.head && fY a.block b.block && eL a.tc b.tc && ee a.proof b.proof && iO a.incl b.incl
abbrev oK:Nat:=54
def qS:AF:=⟨2,6,[.tmp 4],(.seq (.ops [.i (.lbox 2 (.s 0)), .i (.lbox 3 (.s 1)), .i (.mov 4 (qb false))]) (.seq (.ops [qf 5 2 0,ql 6 2 5 1 false,qf 7 3 0,ql 8 3 7 1 false,qd 9 .eql 6 8,qm 10 9, .g 10 true 12 (.fad 11 (.s 2) 1), .g 10 true 13 (.ldl 12 2 (.s 11) 5 true), .g 10 true 14 (.fad 13 (.s 3) 1), .g 10 true 15 (.ldl 14 3 (.s 13) 5 true), .g 10 true 16 (.call 16 26 false [(.s 12),(.s 14)]), .i (.pick 16 (.s 10) (.s 15) (qb false)),qm 17 16, .g 17 true 19 (.fad 18 (.s 2) 6), .g 17 true 20 (.ldl 19 2 (.s 18) 5 true), .g 17 true 21 (.fad 20 (.s 3) 6), .g 17 true 22 (.ldl 21 3 (.s 20) 5 true), .g 17 true 23 (.call 23 29 false [(.s 19),(.s 21)]), .i (.pick 23 (.s 17) (.s 22) (qb false)),qm 24 23, .g 24 true 26 (.fad 25 (.s 2) 11), .g 24 true 27 (.ldl 26 2 (.s 25) 10 true), .g 24 true 28 (.fad 27 (.s 3) 11), .g 24 true 29 (.ldl 28 3 (.s 27) 10 true), .g 24 true 30 (.call 30 32 false [(.s 26),(.s 28)]), .i (.pick 30 (.s 24) (.s 29) (qb false)),qm 31 30, .g 31 true 33 (.fad 32 (.s 2) 21), .g 31 true 34 (.ldl 33 2 (.s 32) 11 true), .g 31 true 35 (.fad 34 (.s 3) 21), .g 31 true 36 (.ldl 35 3 (.s 34) 11 true), .g 31 true 37 (.call 37 36 false [(.s 33),(.s 35)]), .i (.pick 37 (.s 31) (.s 36) (qb false)),qm 38 37, .g 38 true 40 (.fad 39 (.s 2) 32), .g 38 true 41 (.ldl 40 2 (.s 39) 2 true), .g 38 true 42 (.fad 41 (.s 3) 32), .g 38 true 43 (.ldl 42 3 (.s 41) 2 true), .g 38 true 44 (.call 44 39 false [(.s 40),(.s 42)]), .i (.pick 44 (.s 38) (.s 43) (qb false)),qm 45 44, .g 45 true 47 (.fad 46 (.s 2) 34), .g 45 true 48 (.ldl 47 2 (.s 46) 6 true), .g 45 true 49 (.fad 48 (.s 3) 34), .g 45 true 50 (.ldl 49 3 (.s 48) 6 true), .g 45 true 51 (.call 51 42 false [(.s 47),(.s 49)]), .i (.pick 51 (.s 45) (.s 50) (qb false)),qm 52 51, .g 52 true 54 (.fad 53 (.s 2) 40), .g 52 true 55 (.ldl 54 2 (.s 53) 5 true), .g 52 true 56 (.fad 55 (.s 3) 40), .g 52 true 57 (.ldl 56 3 (.s 55) 5 true), .g 52 true 58 (.call 58 45 false [(.s 54),(.s 56)]), .i (.pick 58 (.s 52) (.s 57) (qb false)),qm 4 58]) .ret))⟩
theorem B5:cd oK=some qS:=by kernel_rfl
theorem zu (a b:aW) (ha:a.wc) (hb:b.wc):VC cd oK (aE [(true,a.c),(true,b.c)]) (fun rs _=>rs=bl (jc a b)):=by
 refine aa B5 rfl ?_
 simp(disch:=omega) [qS,aW.c,VY]
 refine ab (fun h1=> ?_) (fun h1=> ?_) <;>simp(disch:=omega) [h1,jc,VY]
 refine av (xa a.vote b.vote) ?_ (ha:=by first|rfl|(simp[bu.c,VY] <;>repeat' constructor))
 simp(disch:=omega) [h1,VY]
 refine aw (fun h2=> ?_) (fun h2=> ?_) <;>simp(disch:=omega) [h1,h2,VY]
 refine av (iw a.qc b.qc ha.qc.1 hb.qc.1) ?_ (ha:=by first|rfl|(simp[Qc.c,VY] <;>repeat' constructor))
 simp(disch:=omega) [h1,h2,VY]
 refine aw (fun h3=> ?_) (fun h3=> ?_) <;>simp(disch:=omega) [h1,h2,h3,VY]
 refine av (fU a.head b.head ha.head.1 hb.head.1) ?_ (ha:=by first|rfl|(simp[Head.c,VY] <;>repeat' constructor))
 simp(disch:=omega) [h1,h2,h3,VY]
 refine aw (fun h4=> ?_) (fun h4=> ?_) <;>simp(disch:=omega) [h1,h2,h3,h4,VY]
 refine av (vD a.block b.block ha.block.1 hb.block.1) ?_ (ha:=by first|rfl|(simp[Block.c,Head.c,VY] <;>repeat' constructor))
 simp(disch:=omega) [h1,h2,h3,h4,VY]
 refine aw (fun h5=> ?_) (fun h5=> ?_) <;>simp(disch:=omega) [h1,h2,h3,h4,h5,VY]
 refine av (Cv a.tc b.tc ha.tc hb.tc) ?_ (ha:=by first|rfl|(simp[Tc.c,VY] <;>repeat' constructor))
 simp(disch:=omega) [h1,h2,h3,h4,h5,VY]
 refine aw (fun h6=> ?_) (fun h6=> ?_) <;>simp(disch:=omega) [h1,h2,h3,h4,h5,h6,VY]
 refine av (vL a.proof b.proof ha.proof.1 hb.proof.1) ?_ (ha:=by first|rfl|(simp[Proof.c,VY] <;>repeat' constructor))
 simp(disch:=omega) [h1,h2,h3,h4,h5,h6,VY]
 refine aw (fun h7=> ?_) (fun h7=> ?_) <;>simp(disch:=omega) [h1,h2,h3,h4,h5,h6,h7,VY]
 refine av (x8 a.incl b.incl ha.incl hb.incl) ?_ (ha:=by first|rfl|(simp[bo.c,VY] <;>repeat' constructor))
 simp(disch:=omega) [h1,h2,h3,h4,h5,h6,h7,VY]
abbrev oZ:Nat:=239
def oR:AF:=⟨2,6,[.tmp 4],(.seq (.ops [.i (.lbox 2 (.s 0)), .i (.lbox 3 (.s 1)), .i (.mov 4 (qb false))]) (.seq (.ops [qf 5 2 0,ql 6 2 5 1 false,qf 7 3 0,ql 8 3 7 1 false,qd 9 .eql 6 8,qm 10 9, .g 10 true 12 (.fad 11 (.s 2) 1), .g 10 true 13 (.ldl 12 2 (.s 11) 5 true), .g 10 true 14 (.fad 13 (.s 3) 1), .g 10 true 15 (.ldl 14 3 (.s 13) 5 true), .g 10 true 16 (.call 16 298 false [(.s 12),(.s 14)]), .i (.pick 16 (.s 10) (.s 15) (qb false)),qm 17 16, .g 17 true 19 (.fad 18 (.s 2) 6), .g 17 true 20 (.ldl 19 2 (.s 18) 5 true), .g 17 true 21 (.fad 20 (.s 3) 6), .g 17 true 22 (.ldl 21 3 (.s 20) 5 true), .g 17 true 23 (.call 23 299 false [(.s 19),(.s 21)]), .i (.pick 23 (.s 17) (.s 22) (qb false)),qm 24 23, .g 24 true 26 (.fad 25 (.s 2) 11), .g 24 true 27 (.ldl 26 2 (.s 25) 10 true), .g 24 true 28 (.fad 27 (.s 3) 11), .g 24 true 29 (.ldl 28 3 (.s 27) 10 true), .g 24 true 30 (.call 30 300 false [(.s 26),(.s 28)]), .i (.pick 30 (.s 24) (.s 29) (qb false)),qm 31 30, .g 31 true 33 (.fad 32 (.s 2) 21), .g 31 true 34 (.ldl 33 2 (.s 32) 11 true), .g 31 true 35 (.fad 34 (.s 3) 21), .g 31 true 36 (.ldl 35 3 (.s 34) 11 true), .g 31 true 37 (.call 37 301 false [(.s 33),(.s 35)]), .i (.pick 37 (.s 31) (.s 36) (qb false)),qm 38 37, .g 38 true 40 (.fad 39 (.s 2) 32), .g 38 true 41 (.ldl 40 2 (.s 39) 2 true), .g 38 true 42 (.fad 41 (.s 3) 32), .g 38 true 43 (.ldl 42 3 (.s 41) 2 true), .g 38 true 44 (.call 44 302 false [(.s 40),(.s 42)]), .i (.pick 44 (.s 38) (.s 43) (qb false)),qm 45 44, .g 45 true 47 (.fad 46 (.s 2) 34), .g 45 true 48 (.ldl 47 2 (.s 46) 6 true), .g 45 true 49 (.fad 48 (.s 3) 34), .g 45 true 50 (.ldl 49 3 (.s 48) 6 true), .g 45 true 51 (.call 51 303 false [(.s 47),(.s 49)]), .i (.pick 51 (.s 45) (.s 50) (qb false)),qm 52 51, .g 52 true 54 (.fad 53 (.s 2) 40), .g 52 true 55 (.ldl 54 2 (.s 53) 5 true), .g 52 true 56 (.fad 55 (.s 3) 40), .g 52 true 57 (.ldl 56 3 (.s 55) 5 true), .g 52 true 58 (.call 58 304 false [(.s 54),(.s 56)]), .i (.pick 58 (.s 52) (.s 57) (qb false)),qm 4 58]) .ret))⟩
theorem Cc:cd oZ=some oR:=by kernel_rfl
theorem cJ (a b:aW) (ha:a.wc) (hb:b.wc):VC cd oZ (aE [(true,a.c),(true,b.c)]) (fun rs _=>rs=bl (jc a b)):=by
 refine aa Cc rfl ?_
 simp(disch:=omega) [oR,aW.c,VY]
 refine ab (fun h1=> ?_) (fun h1=> ?_) <;>simp(disch:=omega) [h1,jc,VY]
 refine av (yc a.vote b.vote) ?_ (ha:=by first|rfl|(simp[bu.c,VY] <;>repeat' constructor))
 simp(disch:=omega) [h1,VY]
 refine aw (fun h2=> ?_) (fun h2=> ?_) <;>simp(disch:=omega) [h1,h2,VY]
 refine av (iH a.qc b.qc ha.qc.1 hb.qc.1) ?_ (ha:=by first|rfl|(simp[Qc.c,VY] <;>repeat' constructor))
 simp(disch:=omega) [h1,h2,VY]
 refine aw (fun h3=> ?_) (fun h3=> ?_) <;>simp(disch:=omega) [h1,h2,h3,VY]
 refine av (fZ a.head b.head ha.head.1 hb.head.1) ?_ (ha:=by first|rfl|(simp[Head.c,VY] <;>repeat' constructor))
 simp(disch:=omega) [h1,h2,h3,VY]
 refine aw (fun h4=> ?_) (fun h4=> ?_) <;>simp(disch:=omega) [h1,h2,h3,h4,VY]
 refine av (wF a.block b.block ha.block.1 hb.block.1) ?_ (ha:=by first|rfl|(simp[Block.c,Head.c,VY] <;>repeat' constructor))
 simp(disch:=omega) [h1,h2,h3,h4,VY]
 refine aw (fun h5=> ?_) (fun h5=> ?_) <;>simp(disch:=omega) [h1,h2,h3,h4,h5,VY]
 refine av (Cm a.tc b.tc ha.tc hb.tc) ?_ (ha:=by first|rfl|(simp[Tc.c,VY] <;>repeat' constructor))
 simp(disch:=omega) [h1,h2,h3,h4,h5,VY]
 refine aw (fun h6=> ?_) (fun h6=> ?_) <;>simp(disch:=omega) [h1,h2,h3,h4,h5,h6,VY]
 refine av (u3 a.proof b.proof ha.proof.1 hb.proof.1) ?_ (ha:=by first|rfl|(simp[Proof.c,VY] <;>repeat' constructor))
 simp(disch:=omega) [h1,h2,h3,h4,h5,h6,VY]
 refine aw (fun h7=> ?_) (fun h7=> ?_) <;>simp(disch:=omega) [h1,h2,h3,h4,h5,h6,h7,VY]
 refine av (xg a.incl b.incl ha.incl hb.incl) ?_ (ha:=by first|rfl|(simp[bo.c,VY] <;>repeat' constructor))
 simp(disch:=omega) [h1,h2,h3,h4,h5,h6,h7,VY]
def iZ (x:bu):List (Bool×List E):= [(true,[.p (.int .i64 1), .p (.int .i64 x.view), .p (.int .i64 x.height), .o true (some (5,1)) (bytes x.block), .p (.int .i64 x.who), .o true (some (5,1)) (bytes x.tag), .p (.int .i64 0), .p (.int .i64 0), .p .nils, .p .nils, .p .nils, .p (.int .i64 0), .p (.int .i64 0), .p (.int .i64 0), .p .nils, .p .nils, .p (.int .i64 0), .p (.int .i64 0), .p .nils, .p .nils, .p .nils, .p (.int .i64 0), .p (.int .i64 0), .p (.int .i64 0), .p .nils, .p .nils, .p (.int .i64 0), .p (.int .i64 0), .p .nils, .p .nils, .p .nils, .p .nils, .p (.int .i64 0), .p .nils, .p .nils, .p (.int .i64 0), .p (.int .i64 0), .p .nils, .p .nils, .p .nils, .p (.int .i64 0), .p (.int .i64 0), .p (.int .i64 0), .p .nils, .p .nils])]
def Eb (x:Qc):List (Bool×List E):= [(true,[.p (.int .i64 2), .p (.int .i64 0), .p (.int .i64 0), .p .nils, .p (.int .i64 0), .p .nils, .p (.int .i64 x.view), .p (.int .i64 x.height), .o true (some (5,1)) (bytes x.block), .o true (some (5,1)) (bytes x.bits), .o true (some (22,1)) (bH x.tags), .p (.int .i64 0), .p (.int .i64 0), .p (.int .i64 0), .p .nils, .p .nils, .p (.int .i64 0), .p (.int .i64 0), .p .nils, .p .nils, .p .nils, .p (.int .i64 0), .p (.int .i64 0), .p (.int .i64 0), .p .nils, .p .nils, .p (.int .i64 0), .p (.int .i64 0), .p .nils, .p .nils, .p .nils, .p .nils, .p (.int .i64 0), .p .nils, .p .nils, .p (.int .i64 0), .p (.int .i64 0), .p .nils, .p .nils, .p .nils, .p (.int .i64 0), .p (.int .i64 0), .p (.int .i64 0), .p .nils, .p .nils])]
def rT (x:Head):List (Bool×List E):= [(true,[.p (.int .i64 3), .p (.int .i64 0), .p (.int .i64 0), .p .nils, .p (.int .i64 0), .p .nils, .p (.int .i64 0), .p (.int .i64 0), .p .nils, .p .nils, .p .nils, .p (.int .i64 x.view), .p (.int .i64 x.height), .p (.int .i64 x.proposer), .o true (some (5,1)) (bytes x.parent), .o true (some (5,1)) (bytes x.root), .p (.int .i64 x.qc.view), .p (.int .i64 x.qc.height), .o true (some (5,1)) (bytes x.qc.block), .o true (some (5,1)) (bytes x.qc.bits), .o true (some (22,1)) (bH x.qc.tags), .p (.int .i64 0), .p (.int .i64 0), .p (.int .i64 0), .p .nils, .p .nils, .p (.int .i64 0), .p (.int .i64 0), .p .nils, .p .nils, .p .nils, .p .nils, .p (.int .i64 0), .p .nils, .p .nils, .p (.int .i64 0), .p (.int .i64 0), .p .nils, .p .nils, .p .nils, .p (.int .i64 0), .p (.int .i64 0), .p (.int .i64 0), .p .nils, .p .nils])]
def sg (x:bo):List (Bool×List E):= [(true,[.p (.int .i64 7), .p (.int .i64 0), .p (.int .i64 0), .p .nils, .p (.int .i64 0), .p .nils, .p (.int .i64 0), .p (.int .i64 0), .p .nils, .p .nils, .p .nils, .p (.int .i64 0), .p (.int .i64 0), .p (.int .i64 0), .p .nils, .p .nils, .p (.int .i64 0), .p (.int .i64 0), .p .nils, .p .nils, .p .nils, .p (.int .i64 0), .p (.int .i64 0), .p (.int .i64 0), .p .nils, .p .nils, .p (.int .i64 0), .p (.int .i64 0), .p .nils, .p .nils, .p .nils, .p .nils, .p (.int .i64 0), .p .nils, .p .nils, .p (.int .i64 0), .p (.int .i64 0), .p .nils, .p .nils, .p .nils, .p (.int .i64 x.height), .p (.int .i64 x.n), .p (.int .i64 x.idx), .o true (some (5,1)) (bytes x.tx), .o true (some (22,1)) (bH x.path)])]
abbrev jN:Nat:=160
def tz:AF:=⟨1,4,[.cell 2 45 true],(.seq (.ops [.i (.lbox 1 (.s 0)), .i (.lal 2 [.int .i64 0, .int .i64 0, .int .i64 0, .nils, .int .i64 0, .nils, .int .i64 0, .int .i64 0, .nils, .nils, .nils, .int .i64 0, .int .i64 0, .int .i64 0, .nils, .nils, .int .i64 0, .int .i64 0, .nils, .nils, .nils, .int .i64 0, .int .i64 0, .int .i64 0, .nils, .nils, .int .i64 0, .int .i64 0, .nils, .nils, .nils, .nils, .int .i64 0, .nils, .nils, .int .i64 0, .int .i64 0, .nils, .nils, .nils, .int .i64 0, .int .i64 0, .int .i64 0, .nils, .nils])]) (.seq (.ops [qf 3 1 2,ql 4 1 3 1 false,qk 6 143 4,qf 6 1 2,qs 1 6 5 1]) (.seq (.ops [qf 7 1 4,ql 8 1 7 1 false,qk 10 143 8,qf 10 1 4,qs 1 10 9 1]) (.seq (.ops [ql 11 1 1 5 true, .i (.bld 12 [.int .i64 0, .int .i64 0, .int .i64 0, .nils, .int .i64 0, .nils, .int .i64 0, .int .i64 0, .nils, .nils, .nils, .int .i64 0, .int .i64 0, .int .i64 0, .nils, .nils, .int .i64 0, .int .i64 0, .nils, .nils, .nils, .int .i64 0, .int .i64 0, .int .i64 0, .nils, .nils, .int .i64 0, .int .i64 0, .nils, .nils, .nils, .nils, .int .i64 0, .nils, .nils, .int .i64 0, .int .i64 0, .nils, .nils, .nils, .int .i64 0, .int .i64 0, .int .i64 0, .nils, .nils] [(0,1,(qi 1)),(1,5,(.s 11))]),qs 2 2 12 45]) .ret))))⟩
theorem CX:cd jN=some tz:=by kernel_rfl
theorem fF (x:bu) (hw:x.wf):VC cd jN (aE [(true,x.c)]) (fun rs _=>rs=iZ x):=by
 have w1:=hw.2.2.1
 have w2:=hw.2.2.2.2
 simp only[Sz]at w1 w2
 refine aa CX rfl ?_
 simp(disch:=omega) [tz,bu.c,VY]
 refine av (bb x.block (by omega)) ?_
 simp(disch:=omega) [VY]
 refine av (bb x.tag (by omega)) ?_
 simp(disch:=omega) [iZ,VY]
abbrev yB:Nat:=184
def yF:AF:=⟨1,3,[.cell 2 45 true],(.seq (.ops [.i (.lbox 1 (.s 0)), .i (.lal 2 [.int .i64 0, .int .i64 0, .int .i64 0, .nils, .int .i64 0, .nils, .int .i64 0, .int .i64 0, .nils, .nils, .nils, .int .i64 0, .int .i64 0, .int .i64 0, .nils, .nils, .int .i64 0, .int .i64 0, .nils, .nils, .nils, .int .i64 0, .int .i64 0, .int .i64 0, .nils, .nils, .int .i64 0, .int .i64 0, .nils, .nils, .nils, .nils, .int .i64 0, .nils, .nils, .int .i64 0, .int .i64 0, .nils, .nils, .nils, .int .i64 0, .int .i64 0, .int .i64 0, .nils, .nils])]) (.seq (.ops [ql 3 1 1 5 true,qk 5 264 3, .i (.bld 5 [.int .i64 0, .int .i64 0, .int .i64 0, .nils, .int .i64 0, .nils, .int .i64 0, .int .i64 0, .nils, .nils, .nils, .int .i64 0, .int .i64 0, .int .i64 0, .nils, .nils, .int .i64 0, .int .i64 0, .nils, .nils, .nils, .int .i64 0, .int .i64 0, .int .i64 0, .nils, .nils, .int .i64 0, .int .i64 0, .nils, .nils, .nils, .nils, .int .i64 0, .nils, .nils, .int .i64 0, .int .i64 0, .nils, .nils, .nils, .int .i64 0, .int .i64 0, .int .i64 0, .nils, .nils] [(0,1,(qi 2)),(6,5,(.s 4))]),qs 2 2 5 45]) .ret))⟩
theorem Gx:cd yB=some yF:=by kernel_rfl
theorem vB (x:Qc) (hw:x.wc):VC cd yB (aE [(true,x.c)]) (fun rs _=>rs=Eb x):=by
 refine aa Gx rfl ?_
 simp(disch:=omega) [yF,Qc.c,VY]
 refine av (uN x hw) ?_ (ha:=by first|rfl|(simp[Qc.c,VY] <;>repeat' constructor))
 simp(disch:=omega) [Eb,Qc.o,VY]
abbrev t8:Nat:=186
def tU:AF:=⟨1,3,[.cell 2 45 true],(.seq (.ops [.i (.lbox 1 (.s 0)), .i (.lal 2 [.int .i64 0, .int .i64 0, .int .i64 0, .nils, .int .i64 0, .nils, .int .i64 0, .int .i64 0, .nils, .nils, .nils, .int .i64 0, .int .i64 0, .int .i64 0, .nils, .nils, .int .i64 0, .int .i64 0, .nils, .nils, .nils, .int .i64 0, .int .i64 0, .int .i64 0, .nils, .nils, .int .i64 0, .int .i64 0, .nils, .nils, .nils, .nils, .int .i64 0, .nils, .nils, .int .i64 0, .int .i64 0, .nils, .nils, .nils, .int .i64 0, .int .i64 0, .int .i64 0, .nils, .nils])]) (.seq (.ops [ql 3 1 1 10 true,qk 5 267 3, .i (.bld 5 [.int .i64 0, .int .i64 0, .int .i64 0, .nils, .int .i64 0, .nils, .int .i64 0, .int .i64 0, .nils, .nils, .nils, .int .i64 0, .int .i64 0, .int .i64 0, .nils, .nils, .int .i64 0, .int .i64 0, .nils, .nils, .nils, .int .i64 0, .int .i64 0, .int .i64 0, .nils, .nils, .int .i64 0, .int .i64 0, .nils, .nils, .nils, .nils, .int .i64 0, .nils, .nils, .int .i64 0, .int .i64 0, .nils, .nils, .nils, .int .i64 0, .int .i64 0, .int .i64 0, .nils, .nils] [(0,1,(qi 3)),(11,10,(.s 4))]),qs 2 2 5 45]) .ret))⟩
theorem Dj:cd t8=some tU:=by kernel_rfl
theorem qW (x:Head) (hw:x.wc):VC cd t8 (aE [(true,x.c)]) (fun rs _=>rs=rT x):=by
 refine aa Dj rfl ?_
 simp(disch:=omega) [tU,Head.c,VY]
 refine av (lF x hw) ?_ (ha:=by first|rfl|(simp[Head.c,VY] <;>repeat' constructor))
 simp(disch:=omega) [rT,Head.o,VY]
abbrev sF:Nat:=194
def sC:AF:=⟨1,3,[.cell 2 45 true],(.seq (.ops [.i (.lbox 1 (.s 0)), .i (.lal 2 [.int .i64 0, .int .i64 0, .int .i64 0, .nils, .int .i64 0, .nils, .int .i64 0, .int .i64 0, .nils, .nils, .nils, .int .i64 0, .int .i64 0, .int .i64 0, .nils, .nils, .int .i64 0, .int .i64 0, .nils, .nils, .nils, .int .i64 0, .int .i64 0, .int .i64 0, .nils, .nils, .int .i64 0, .int .i64 0, .nils, .nils, .nils, .nils, .int .i64 0, .nils, .nils, .int .i64 0, .int .i64 0, .nils, .nils, .nils, .int .i64 0, .int .i64 0, .int .i64 0, .nils, .nils])]) (.seq (.ops [ql 3 1 1 5 true,qk 5 275 3, .i (.bld 5 [.int .i64 0, .int .i64 0, .int .i64 0, .nils, .int .i64 0, .nils, .int .i64 0, .int .i64 0, .nils, .nils, .nils, .int .i64 0, .int .i64 0, .int .i64 0, .nils, .nils, .int .i64 0, .int .i64 0, .nils, .nils, .nils, .int .i64 0, .int .i64 0, .int .i64 0, .nils, .nils, .int .i64 0, .int .i64 0, .nils, .nils, .nils, .nils, .int .i64 0, .nils, .nils, .int .i64 0, .int .i64 0, .nils, .nils, .nils, .int .i64 0, .int .i64 0, .int .i64 0, .nils, .nils] [(0,1,(qi 7)),(40,5,(.s 4))]),qs 2 2 5 45]) .ret))⟩
theorem Dn:cd sF=some sC:=by kernel_rfl
theorem pZ (x:bo) (hw:x.wc):VC cd sF (aE [(true,x.c)]) (fun rs _=>rs=sg x):=by
 refine aa Dn rfl ?_
 simp(disch:=omega) [sC,bo.c,VY]
 refine av (I8 x hw) ?_ (ha:=by first|rfl|(simp[bo.c,VY] <;>repeat' constructor))
 simp(disch:=omega) [sg,bo.o,VY]
abbrev cB:Nat:=240
def cA:AF:=⟨1,6,[.cell 2 45 true],(.seq (.ops [.i (.lbox 1 (.s 0)), .i (.lal 2 [.int .i64 0, .int .i64 0, .int .i64 0, .nils, .int .i64 0, .nils, .int .i64 0, .int .i64 0, .nils, .nils, .nils, .int .i64 0, .int .i64 0, .int .i64 0, .nils, .nils, .int .i64 0, .int .i64 0, .nils, .nils, .nils, .int .i64 0, .int .i64 0, .int .i64 0, .nils, .nils, .int .i64 0, .int .i64 0, .nils, .nils, .nils, .nils, .int .i64 0, .nils, .nils, .int .i64 0, .int .i64 0, .nils, .nils, .nils, .int .i64 0, .int .i64 0, .int .i64 0, .nils, .nils])]) (.seq (.seq (.ops [qf 3 1 0,ql 4 1 3 1 false]) (.block 0 (.seq (.ops [.i (.bin 6 .eql (.s 4) (qi 1)),qm 5 6]) (.cond (.s 5) (.seq (.ops [qf 7 1 1,ql 8 1 7 5 true,qk 10 160 8,qs 2 2 9 45]) .ret) (.seq (.ops [.i (.bin 11 .eql (.s 4) (qi 2)),qm 10 11]) (.cond (.s 10) (.seq (.ops [qf 12 1 6,ql 13 1 12 5 true,qk 15 184 13,qs 2 2 14 45]) .ret) (.seq (.ops [.i (.bin 16 .eql (.s 4) (qi 3)),qm 15 16]) (.cond (.s 15) (.seq (.ops [qf 17 1 11,ql 18 1 17 10 true,qk 20 186 18,qs 2 2 19 45]) .ret) (.seq (.ops [.i (.bin 21 .eql (.s 4) (qi 4)),qm 20 21]) (.cond (.s 20) (.seq (.ops [qf 22 1 21,ql 23 1 22 11 true,qk 25 188 23,qs 2 2 24 45]) .ret) (.seq (.ops [.i (.bin 26 .eql (.s 4) (qi 5)),qm 25 26]) (.cond (.s 25) (.seq (.ops [qf 27 1 32,ql 28 1 27 2 true,qk 30 190 28,qs 2 2 29 45]) .ret) (.seq (.ops [.i (.bin 31 .eql (.s 4) (qi 6)),qm 30 31]) (.cond (.s 30) (.seq (.ops [qf 32 1 34,ql 33 1 32 6 true,qk 35 192 33,qs 2 2 34 45]) .ret) (.seq (.ops [.i (.bin 36 .eql (.s 4) (qi 7)),qm 35 36]) (.cond (.s 35) (.seq (.ops [qf 37 1 40,ql 38 1 37 5 true,qk 40 194 38,qs 2 2 39 45]) .ret) .skip)))))))))))))))) (.seq (.ops [.i (.bld 40 [.int .i64 0, .int .i64 0, .int .i64 0, .nils, .int .i64 0, .nils, .int .i64 0, .int .i64 0, .nils, .nils, .nils, .int .i64 0, .int .i64 0, .int .i64 0, .nils, .nils, .int .i64 0, .int .i64 0, .nils, .nils, .nils, .int .i64 0, .int .i64 0, .int .i64 0, .nils, .nils, .int .i64 0, .int .i64 0, .nils, .nils, .nils, .nils, .int .i64 0, .nils, .nils, .int .i64 0, .int .i64 0, .nils, .nils, .nils, .int .i64 0, .int .i64 0, .int .i64 0, .nils, .nils] []),qs 2 2 40 45]) .ret)))⟩
theorem cR:cd cB=some cA:=by kernel_rfl
theorem Fy (m:aW) (hw:m.wc) (hk:m.kind=1):VC cd cB (aE [(true,m.c)]) (fun rs _=>rs=iZ m.vote):=by
 refine aa cR rfl ?_
 simp(disch:=omega) [cA,aW.c,hk,VY]
 refine av (fF m.vote hw.vote) ?_ (ha:=by first|rfl|(simp[bu.c,VY] <;>repeat' constructor))
 simp(disch:=omega) [iZ,VY]
theorem E6 (m:aW) (hw:m.wc) (hk:m.kind=2):VC cd cB (aE [(true,m.c)]) (fun rs _=>rs=Eb m.qc):=by
 refine aa cR rfl ?_
 simp(disch:=omega) [cA,aW.c,hk,VY]
 refine av (vB m.qc hw.qc) ?_ (ha:=by first|rfl|(simp[Qc.c,VY] <;>repeat' constructor))
 simp(disch:=omega) [Eb,VY]
theorem FT (m:aW) (hw:m.wc) (hk:m.kind=3):VC cd cB (aE [(true,m.c)]) (fun rs _=>rs=rT m.head):=by
 refine aa cR rfl ?_
 simp(disch:=omega) [cA,aW.c,hk,VY]
 refine av (qW m.head hw.head) ?_ (ha:=by first|rfl|(simp[Head.c,VY] <;>repeat' constructor))
 simp(disch:=omega) [rT,VY]
theorem EO (m:aW) (hw:m.wc) (hk:m.kind=4):VC cd cB (aE [(true,m.c)]) (fun rs _=>rs=kT m.block):=by
 refine aa cR rfl ?_
 simp(disch:=omega) [cA,aW.c,hk,VY]
 refine av (mX m.block hw.block.1) ?_ (ha:=by first|rfl|(simp[Block.c,Head.c,VY] <;>repeat' constructor))
 simp(disch:=omega) [kT,VY]
theorem Fo (m:aW) (hw:m.wc) (hk:m.kind=5):VC cd cB (aE [(true,m.c)]) (fun rs _=>rs=D8 m.tc):=by
 refine aa cR rfl ?_
 simp(disch:=omega) [cA,aW.c,hk,VY]
 refine av (vH m.tc hw.tc) ?_ (ha:=by first|rfl|(simp[Tc.c,VY] <;>repeat' constructor))
 simp(disch:=omega) [D8,VY]
theorem Gb (m:aW) (hw:m.wc) (hk:m.kind=6):VC cd cB (aE [(true,m.c)]) (fun rs _=>rs=kG m.proof):=by
 refine aa cR rfl ?_
 simp(disch:=omega) [cA,aW.c,hk,VY]
 refine av (mK m.proof hw.proof) ?_ (ha:=by first|rfl|(simp[Proof.c,VY] <;>repeat' constructor))
 simp(disch:=omega) [kG,VY]
theorem F2 (m:aW) (hw:m.wc) (hk:m.kind=7):VC cd cB (aE [(true,m.c)]) (fun rs _=>rs=sg m.incl):=by
 refine aa cR rfl ?_
 simp(disch:=omega) [cA,aW.c,hk,VY]
 refine av (pZ m.incl hw.incl) ?_ (ha:=by first|rfl|(simp[bo.c,VY] <;>repeat' constructor))
 simp(disch:=omega) [sg,VY]
def bY (m:aW):aW:=if m.kind=1 then {au with kind:=1,vote:=m.vote}else if m.kind=2 then {au with kind:=2,qc:=m.qc}else if m.kind=3 then {au with kind:=3,head:=m.head}else if m.kind=4 then {au with kind:=4,block:=m.block}else if m.kind=5 then {au with kind:=5,tc:=m.tc}else if m.kind=6 then {au with kind:=6,proof:=m.proof}else if m.kind=7 then {au with kind:=7,incl:=m.incl}else au
def aM (l:ah) (m:aW):Bool:=if m.kind=1 then zl l m.vote else if m.kind=2 then gf l m.qc else if m.kind=3 then bG l m.head else if m.kind=4 then bF l m.block else if m.kind=5 then jC l m.tc else if m.kind=6 then c4 l m.proof else if m.kind=7 then eO l m.incl else false
def bP (m:aW):Bytes:=if m.kind=1 then OQ m.vote else if m.kind=2 then K4 m.qc else if m.kind=3 then ep m.head else if m.kind=4 then oT m.block else if m.kind=5 then O6 m.tc else if m.kind=6 then o7 m.proof else yz m.incl
theorem jB {l:ah} {m:aW} (h:aM l m=true):m.kind=1∨m.kind=2∨m.kind=3∨m.kind=4∨m.kind=5∨m.kind=6∨m.kind=7:=by
 unfold aM at h
 repeat' split at h
 all_goals first|(simp at h;done)|omega
def br (l:ah) (m:aW):Bool:=aM l m && jc m (bY m)
abbrev tM:Nat:=183
def tX:AF:=⟨3,7,[.tmp 6, .tmp 7],(.seq (.ops [.i (.lbox 3 (.s 0)), .i (.lbox 5 (.s 2)), .i (.mov 6 (.c (.val false [.nils]))), .i (.mov 7 (qb false))]) (.seq (.seq (.ops [qf 8 5 0,ql 9 5 8 1 false]) (.block 0 (.seq (.ops [.i (.bin 11 .eql (.s 9) (qi 1)),qm 10 11]) (.cond (.s 10) (.seq (.ops [ql 12 3 3 5 true,qm 13 1,qf 14 5 1,ql 15 5 14 5 true, .i (.call 17 257 false [(.s 12),(.s 13),(.s 15)]), .i (.ext 17 (.s 16) 0), .i (.ext 18 (.s 16) 1),qm 6 17,qm 7 18]) .ret) (.seq (.ops [.i (.bin 20 .eql (.s 9) (qi 2)),qm 19 20]) (.cond (.s 19) (.seq (.ops [ql 21 3 3 5 true,qm 22 1,qf 23 5 6,ql 24 5 23 5 true, .i (.call 26 258 false [(.s 21),(.s 22),(.s 24)]), .i (.ext 26 (.s 25) 0), .i (.ext 27 (.s 25) 1),qm 6 26,qm 7 27]) .ret) (.seq (.ops [.i (.bin 29 .eql (.s 9) (qi 3)),qm 28 29]) (.cond (.s 28) (.seq (.ops [ql 30 3 3 5 true,qm 31 1,qf 32 5 11,ql 33 5 32 10 true, .i (.call 35 259 false [(.s 30),(.s 31),(.s 33)]), .i (.ext 35 (.s 34) 0), .i (.ext 36 (.s 34) 1),qm 6 35,qm 7 36]) .ret) (.seq (.ops [.i (.bin 38 .eql (.s 9) (qi 4)),qm 37 38]) (.cond (.s 37) (.seq (.ops [ql 39 3 3 5 true,qm 40 1,qf 41 5 21,ql 42 5 41 11 true, .i (.call 44 260 false [(.s 39),(.s 40),(.s 42)]), .i (.ext 44 (.s 43) 0), .i (.ext 45 (.s 43) 1),qm 6 44,qm 7 45]) .ret) (.seq (.ops [.i (.bin 47 .eql (.s 9) (qi 5)),qm 46 47]) (.cond (.s 46) (.seq (.ops [ql 48 3 3 5 true,qm 49 1,qf 50 5 32,ql 51 5 50 2 true, .i (.call 53 261 false [(.s 48),(.s 49),(.s 51)]), .i (.ext 53 (.s 52) 0), .i (.ext 54 (.s 52) 1),qm 6 53,qm 7 54]) .ret) (.seq (.ops [.i (.bin 56 .eql (.s 9) (qi 6)),qm 55 56]) (.cond (.s 55) (.seq (.ops [ql 57 3 3 5 true,qm 58 1,qf 59 5 34,ql 60 5 59 6 true, .i (.call 62 262 false [(.s 57),(.s 58),(.s 60)]), .i (.ext 62 (.s 61) 0), .i (.ext 63 (.s 61) 1),qm 6 62,qm 7 63]) .ret) .skip)))))))))))))) (.seq (.ops [ql 64 3 3 5 true,qm 65 1,qf 66 5 40,ql 67 5 66 5 true, .i (.call 69 263 false [(.s 64),(.s 65),(.s 67)]), .i (.ext 69 (.s 68) 0), .i (.ext 70 (.s 68) 1),qm 6 69,qm 7 70]) .ret)))⟩
theorem DB:cd tM=some tX:=by kernel_rfl
theorem bB (l:ah) (b:Bytes) (m:aW) (hw:m.wc) (hk:cf m.kind 1 7=true) (hb:b.length≤800000000):VC cd tM (aE [(true,l.c),(false,[.sl (bytes b)]),(true,m.c)]) (fun rs _=>rs=dw (aM l m) (b++bP m)):=by
 have hk2:=fA hk
 refine aa DB rfl ?_
 simp(disch:=omega) [tX,aW.c,ah.c,VY]
 refine ab (fun g1=> ?_) (fun g1=> ?_)
 ·have e1:aM l m=zl l m.vote:=by simp[aM,g1]
  have e2:bP m=OQ m.vote:=by simp[bP,g1]
  rw[e1,e2]
  simp(disch:=omega) [g1,VY]
  cases hp:zl l m.vote
  ·refine av ((ny l b m.vote (by omega)).re (ei hp)) ?_ (ha:=by first|rfl|(simp[ah.c,bu.c,VY] <;>repeat' constructor))
   simp(disch:=omega) [dw,g1,VY]
  ·refine av ((ny l b m.vote (by omega)).re (dg hp)) ?_ (ha:=by first|rfl|(simp[ah.c,bu.c,VY] <;>repeat' constructor))
   simp(disch:=omega) [dw,g1,VY]
 simp(disch:=omega) [g1,VY]
 refine ab (fun g2=> ?_) (fun g2=> ?_)
 ·have e1:aM l m=gf l m.qc:=by simp[aM,g2]
  have e2:bP m=K4 m.qc:=by simp[bP,g2]
  rw[e1,e2]
  simp(disch:=omega) [g2,VY]
  cases hp:gf l m.qc
  ·refine av ((gA l b m.qc hw.qc.1 (by omega)).re (ei hp)) ?_ (ha:=by first|rfl|(simp[ah.c,Qc.c,VY] <;>repeat' constructor))
   simp(disch:=omega) [dw,g2,VY]
  ·refine av ((gA l b m.qc hw.qc.1 (by omega)).re (dg hp)) ?_ (ha:=by first|rfl|(simp[ah.c,Qc.c,VY] <;>repeat' constructor))
   simp(disch:=omega) [dw,g2,VY]
 simp(disch:=omega) [g2,VY]
 refine ab (fun g3=> ?_) (fun g3=> ?_)
 ·have e1:aM l m=bG l m.head:=by simp[aM,g3]
  have e2:bP m=ep m.head:=by simp[bP,g3]
  rw[e1,e2]
  simp(disch:=omega) [g3,VY]
  cases hp:bG l m.head
  ·refine av ((c7 l b m.head hw.head.1 (by omega)).re (ei hp)) ?_ (ha:=by first|rfl|(simp[ah.c,Head.c,VY] <;>repeat' constructor))
   simp(disch:=omega) [dw,g3,VY]
  ·refine av ((c7 l b m.head hw.head.1 (by omega)).re (dg hp)) ?_ (ha:=by first|rfl|(simp[ah.c,Head.c,VY] <;>repeat' constructor))
   simp(disch:=omega) [dw,g3,VY]
 simp(disch:=omega) [g3,VY]
 refine ab (fun g4=> ?_) (fun g4=> ?_)
 ·have e1:aM l m=bF l m.block:=by simp[aM,g4]
  have e2:bP m=oT m.block:=by simp[bP,g4]
  rw[e1,e2]
  simp(disch:=omega) [g4,VY]
  cases hp:bF l m.block
  ·refine av ((ln l b m.block hw.block (by omega)).re (ei hp)) ?_ (ha:=by first|rfl|(simp[ah.c,Block.c,Head.c,VY] <;>repeat' constructor))
   simp(disch:=omega) [dw,g4,VY]
  ·refine av ((ln l b m.block hw.block (by omega)).re (dg hp)) ?_ (ha:=by first|rfl|(simp[ah.c,Block.c,Head.c,VY] <;>repeat' constructor))
   simp(disch:=omega) [dw,g4,VY]
 simp(disch:=omega) [g4,VY]
 refine ab (fun g5=> ?_) (fun g5=> ?_)
 ·have e1:aM l m=jC l m.tc:=by simp[aM,g5]
  have e2:bP m=O6 m.tc:=by simp[bP,g5]
  rw[e1,e2]
  simp(disch:=omega) [g5,VY]
  cases hp:jC l m.tc
  ·refine av ((tj l b m.tc hw.tc (by omega)).re (ei hp)) ?_ (ha:=by first|rfl|(simp[ah.c,Tc.c,VY] <;>repeat' constructor))
   simp(disch:=omega) [dw,g5,VY]
  ·refine av ((tj l b m.tc hw.tc (by omega)).re (dg hp)) ?_ (ha:=by first|rfl|(simp[ah.c,Tc.c,VY] <;>repeat' constructor))
   simp(disch:=omega) [dw,g5,VY]
 simp(disch:=omega) [g5,VY]
 refine ab (fun g6=> ?_) (fun g6=> ?_)
 ·have e1:aM l m=c4 l m.proof:=by simp[aM,g6]
  have e2:bP m=o7 m.proof:=by simp[bP,g6]
  rw[e1,e2]
  simp(disch:=omega) [g6,VY]
  cases hp:c4 l m.proof
  ·refine av ((jW l b m.proof hw.proof (by omega)).re (ei hp)) ?_ (ha:=by first|rfl|(simp[ah.c,Proof.c,VY] <;>repeat' constructor))
   simp(disch:=omega) [dw,g6,VY]
  ·refine av ((jW l b m.proof hw.proof (by omega)).re (dg hp)) ?_ (ha:=by first|rfl|(simp[ah.c,Proof.c,VY] <;>repeat' constructor))
   simp(disch:=omega) [dw,g6,VY]
 simp(disch:=omega) [g6,VY]
 have g7:m.kind=7:=by omega
 have e1:aM l m=eO l m.incl:=by simp[aM,g7]
 have e2:bP m=yz m.incl:=by simp[bP,g7]
 rw[e1,e2]
 cases hp:eO l m.incl
 ·refine av ((mG l b m.incl hw.incl hw.tx (by omega)).re (ei hp)) ?_ (ha:=by first|rfl|(simp[ah.c,bo.c,VY] <;>repeat' constructor))
  simp(disch:=omega) [dw,g7,VY]
 ·refine av ((mG l b m.incl hw.incl hw.tx (by omega)).re (dg hp)) ?_ (ha:=by first|rfl|(simp[ah.c,bo.c,VY] <;>repeat' constructor))
  simp(disch:=omega) [dw,g7,VY]
theorem NJ {m:aW} (h:m.kind=1):bY m= {au with kind:=1,vote:=m.vote}:=by simp[bY,h]
theorem NF {m:aW} (h:m.kind=2):bY m= {au with kind:=2,qc:=m.qc}:=by simp[bY,h]
theorem Nd {m:aW} (h:m.kind=3):bY m= {au with kind:=3,head:=m.head}:=by simp[bY,h]
theorem N2 {m:aW} (h:m.kind=4):bY m= {au with kind:=4,block:=m.block}:=by simp[bY,h]
theorem NL {m:aW} (h:m.kind=5):bY m= {au with kind:=5,tc:=m.tc}:=by simp[bY,h]
theorem Oq {m:aW} (h:m.kind=6):bY m= {au with kind:=6,proof:=m.proof}:=by simp[bY,h]
theorem M4 {m:aW} (h:m.kind=7):bY m= {au with kind:=7,incl:=m.incl}:=by simp[bY,h]
theorem Ln {m:aW} (hw:m.wc):(bY m).wc:=by
 unfold bY
 repeat' split
 ·exact {c9 with kind:=by simp only[nQ];omega,vote:=hw.vote}
 ·exact {c9 with kind:=by simp only[nQ];omega,qc:=hw.qc}
 ·exact {c9 with kind:=by simp only[nQ];omega,head:=hw.head}
 ·exact {c9 with kind:=by simp only[nQ];omega,block:=hw.block}
 ·exact {c9 with kind:=by simp only[nQ];omega,tc:=hw.tc}
 ·exact {c9 with kind:=by simp only[nQ];omega,proof:=hw.proof}
 ·exact {c9 with kind:=by simp only[nQ];omega,incl:=hw.incl,tx:=hw.tx}
 ·exact c9
abbrev nT:Nat:=238
def o8:AF:=⟨1,3,[.tmp 2],(.seq (.ops [.i (.mov 2 (qb false))]) (.seq (.ops [qm 3 0, .i (.call 5 221 false [(.s 3),(qi 1),(qi 7)]),qm 2 4]) .ret))⟩
theorem Ca:cd nT=some o8:=by kernel_rfl
theorem I3 (k:Int):VC cd nT (aE [(false,[.int .i64 k])]) (fun rs _=>rs=bl (cf k 1 7)):=by
 refine aa Ca rfl ?_
 simp(disch:=omega) [o8,VY]
 refine av (bS k 1 7) ?_
 simp(disch:=omega) [VY]
abbrev vh:Nat:=159
def wN:AF:=⟨2,5,[.tmp 4],(.seq (.ops [.i (.lbox 2 (.s 0)), .i (.lbox 3 (.s 1)), .i (.mov 4 (qb false))]) (.seq (.seq (.ops [qf 7 3 0,ql 8 3 7 1 false,qk 10 238 8, .i (.not 10 (.s 9)),qm 11 10, .g 11 false 13 (.ldl 12 3 (.s 3) 45 true), .g 11 false 14 (.ldl 13 3 (.s 3) 45 true), .g 11 false 15 (.call 15 240 false [(.s 13)]), .g 11 false 16 (.call 16 239 false [(.s 12),(.s 14)]), .g 11 false 17 (.not 16 (.s 15)), .i (.pick 17 (.s 11) (qb true) (.s 16))]) (.cond (.s 17) (.seq (.ops [.i (.mov 4 (qb false))]) .ret) .skip)) (.seq (.ops [ql 19 2 2 5 true,ql 20 3 3 45 true, .i (.call 22 183 false [(.s 19),(.c (.val false [.nils])),(.s 20)]),qm 18 21, .i (.ext 22 (.s 18) 0), .i (.ext 23 (.s 18) 1),qm 5 22,qm 6 23]) (.seq (.ops [qm 24 6,qm 4 24]) .ret))))⟩
theorem Fq:cd vh=some wN:=by kernel_rfl
theorem C9 (l:ah) (m:aW) (hw:m.wc):VC cd vh (aE [(true,l.c),(true,m.c)]) (fun rs _=>rs=bl (br l m)):=by
 have hx:=Ln hw
 refine aa Fq rfl ?_
 simp(disch:=omega) [wN,aW.c,ah.c,VY]
 refine av (I3 m.kind) ?_
 simp(disch:=omega) [VY]
 refine aw (fun h1=> ?_) (fun h1=> ?_)
 case refine_2=>
  have e1:aM l m=false:=by
   cases hp:aM l m with
   |false=>rfl
   |true=>rcases jB hp with hk|hk|hk|hk|hk|hk|hk <;>(rw[hk]at h1;cases h1)
  simp(disch:=omega) [h1,br,e1,VY]
 simp(disch:=omega) [h1,VY]
 have hk2:=fA h1
 have hk3:m.kind=1∨m.kind=2∨m.kind=3∨m.kind=4∨m.kind=5∨m.kind=6∨m.kind=7:=by omega
 rcases hk3 with hk|hk|hk|hk|hk|hk|hk
 ·refine av (Fy m hw hk) ?_ (ha:=by first|rfl|(simp[aW.c,VY] <;>repeat' constructor))
  simp(disch:=omega) [iZ,h1,VY]
  refine av (cJ m (bY m) hw hx) ?_ (ha:=by first|rfl|(simp[aW.c,NJ hk,au,bI,gm,bm,aF,iW,aK,bD,ag,show bH []= []from rfl,show f6 []= []from rfl,show lU []= []from rfl,VY] <;>repeat' constructor))
  simp(disch:=omega) [h1,VY]
  refine aw (fun h2=> ?_) (fun h2=> ?_)
  case refine_2=>simp(disch:=omega) [h1,h2,br,VY]
  simp(disch:=omega) [h1,h2,VY]
  cases hp:aM l m
  ·refine av ((bB l [] m hw h1 (by simp)).re (ei hp)) ?_ (ha:=by first|rfl|(simp[aW.c,ah.c,ag,VY] <;>repeat' constructor))
   simp(disch:=omega) [br,hp,h2,VY]
  ·refine av ((bB l [] m hw h1 (by simp)).re (dg hp)) ?_ (ha:=by first|rfl|(simp[aW.c,ah.c,ag,VY] <;>repeat' constructor))
   simp(disch:=omega) [br,hp,h2,VY]
 ·refine av (E6 m hw hk) ?_ (ha:=by first|rfl|(simp[aW.c,VY] <;>repeat' constructor))
  simp(disch:=omega) [Eb,h1,VY]
  refine av (cJ m (bY m) hw hx) ?_ (ha:=by first|rfl|(simp[aW.c,NF hk,au,bI,gm,bm,aF,iW,aK,bD,ag,show bH []= []from rfl,show f6 []= []from rfl,show lU []= []from rfl,VY] <;>repeat' constructor))
  simp(disch:=omega) [h1,VY]
  refine aw (fun h2=> ?_) (fun h2=> ?_)
  case refine_2=>simp(disch:=omega) [h1,h2,br,VY]
  simp(disch:=omega) [h1,h2,VY]
  cases hp:aM l m
  ·refine av ((bB l [] m hw h1 (by simp)).re (ei hp)) ?_ (ha:=by first|rfl|(simp[aW.c,ah.c,ag,VY] <;>repeat' constructor))
   simp(disch:=omega) [br,hp,h2,VY]
  ·refine av ((bB l [] m hw h1 (by simp)).re (dg hp)) ?_ (ha:=by first|rfl|(simp[aW.c,ah.c,ag,VY] <;>repeat' constructor))
   simp(disch:=omega) [br,hp,h2,VY]
 ·refine av (FT m hw hk) ?_ (ha:=by first|rfl|(simp[aW.c,VY] <;>repeat' constructor))
  simp(disch:=omega) [rT,h1,VY]
  refine av (cJ m (bY m) hw hx) ?_ (ha:=by first|rfl|(simp[aW.c,Nd hk,au,bI,gm,bm,aF,iW,aK,bD,ag,show bH []= []from rfl,show f6 []= []from rfl,show lU []= []from rfl,VY] <;>repeat' constructor))
  simp(disch:=omega) [h1,VY]
  refine aw (fun h2=> ?_) (fun h2=> ?_)
  case refine_2=>simp(disch:=omega) [h1,h2,br,VY]
  simp(disch:=omega) [h1,h2,VY]
  cases hp:aM l m
  ·refine av ((bB l [] m hw h1 (by simp)).re (ei hp)) ?_ (ha:=by first|rfl|(simp[aW.c,ah.c,ag,VY] <;>repeat' constructor))
   simp(disch:=omega) [br,hp,h2,VY]
  ·refine av ((bB l [] m hw h1 (by simp)).re (dg hp)) ?_ (ha:=by first|rfl|(simp[aW.c,ah.c,ag,VY] <;>repeat' constructor))
   simp(disch:=omega) [br,hp,h2,VY]
 ·refine av (EO m hw hk) ?_ (ha:=by first|rfl|(simp[aW.c,VY] <;>repeat' constructor))
  simp(disch:=omega) [kT,h1,VY]
  refine av (cJ m (bY m) hw hx) ?_ (ha:=by first|rfl|(simp[aW.c,N2 hk,au,bI,gm,bm,aF,iW,aK,bD,ag,show bH []= []from rfl,show f6 []= []from rfl,show lU []= []from rfl,VY] <;>repeat' constructor))
  simp(disch:=omega) [h1,VY]
  refine aw (fun h2=> ?_) (fun h2=> ?_)
  case refine_2=>simp(disch:=omega) [h1,h2,br,VY]
  simp(disch:=omega) [h1,h2,VY]
  cases hp:aM l m
  ·refine av ((bB l [] m hw h1 (by simp)).re (ei hp)) ?_ (ha:=by first|rfl|(simp[aW.c,ah.c,ag,VY] <;>repeat' constructor))
   simp(disch:=omega) [br,hp,h2,VY]
  ·refine av ((bB l [] m hw h1 (by simp)).re (dg hp)) ?_ (ha:=by first|rfl|(simp[aW.c,ah.c,ag,VY] <;>repeat' constructor))
   simp(disch:=omega) [br,hp,h2,VY]
 ·refine av (Fo m hw hk) ?_ (ha:=by first|rfl|(simp[aW.c,VY] <;>repeat' constructor))
  simp(disch:=omega) [D8,h1,VY]
  refine av (cJ m (bY m) hw hx) ?_ (ha:=by first|rfl|(simp[aW.c,NL hk,au,bI,gm,bm,aF,iW,aK,bD,ag,show bH []= []from rfl,show f6 []= []from rfl,show lU []= []from rfl,VY] <;>repeat' constructor))
  simp(disch:=omega) [h1,VY]
  refine aw (fun h2=> ?_) (fun h2=> ?_)
  case refine_2=>simp(disch:=omega) [h1,h2,br,VY]
  simp(disch:=omega) [h1,h2,VY]
  cases hp:aM l m
  ·refine av ((bB l [] m hw h1 (by simp)).re (ei hp)) ?_ (ha:=by first|rfl|(simp[aW.c,ah.c,ag,VY] <;>repeat' constructor))
   simp(disch:=omega) [br,hp,h2,VY]
  ·refine av ((bB l [] m hw h1 (by simp)).re (dg hp)) ?_ (ha:=by first|rfl|(simp[aW.c,ah.c,ag,VY] <;>repeat' constructor))
   simp(disch:=omega) [br,hp,h2,VY]
 ·refine av (Gb m hw hk) ?_ (ha:=by first|rfl|(simp[aW.c,VY] <;>repeat' constructor))
  simp(disch:=omega) [kG,h1,VY]
  refine av (cJ m (bY m) hw hx) ?_ (ha:=by first|rfl|(simp[aW.c,Oq hk,au,bI,gm,bm,aF,iW,aK,bD,ag,show bH []= []from rfl,show f6 []= []from rfl,show lU []= []from rfl,VY] <;>repeat' constructor))
  simp(disch:=omega) [h1,VY]
  refine aw (fun h2=> ?_) (fun h2=> ?_)
  case refine_2=>simp(disch:=omega) [h1,h2,br,VY]
  simp(disch:=omega) [h1,h2,VY]
  cases hp:aM l m
  ·refine av ((bB l [] m hw h1 (by simp)).re (ei hp)) ?_ (ha:=by first|rfl|(simp[aW.c,ah.c,ag,VY] <;>repeat' constructor))
   simp(disch:=omega) [br,hp,h2,VY]
  ·refine av ((bB l [] m hw h1 (by simp)).re (dg hp)) ?_ (ha:=by first|rfl|(simp[aW.c,ah.c,ag,VY] <;>repeat' constructor))
   simp(disch:=omega) [br,hp,h2,VY]
 ·refine av (F2 m hw hk) ?_ (ha:=by first|rfl|(simp[aW.c,VY] <;>repeat' constructor))
  simp(disch:=omega) [sg,h1,VY]
  refine av (cJ m (bY m) hw hx) ?_ (ha:=by first|rfl|(simp[aW.c,M4 hk,au,bI,gm,bm,aF,iW,aK,bD,ag,show bH []= []from rfl,show f6 []= []from rfl,show lU []= []from rfl,VY] <;>repeat' constructor))
  simp(disch:=omega) [h1,VY]
  refine aw (fun h2=> ?_) (fun h2=> ?_)
  case refine_2=>simp(disch:=omega) [h1,h2,br,VY]
  simp(disch:=omega) [h1,h2,VY]
  cases hp:aM l m
  ·refine av ((bB l [] m hw h1 (by simp)).re (ei hp)) ?_ (ha:=by first|rfl|(simp[aW.c,ah.c,ag,VY] <;>repeat' constructor))
   simp(disch:=omega) [br,hp,h2,VY]
  ·refine av ((bB l [] m hw h1 (by simp)).re (dg hp)) ?_ (ha:=by first|rfl|(simp[aW.c,ah.c,ag,VY] <;>repeat' constructor))
   simp(disch:=omega) [br,hp,h2,VY]
end Go.Eng.F
namespace Go.Eng.F
open Go.Eng.U (Gz dK df GS qV QI gP Hz Hs)
def bu.tv (x:bu):Tv:= .r [.i x.view, .i x.height,CO x.block, .i x.who,CO x.tag]
theorem bu.enc (x:bu):enc GS x.tv=x.c:=by simp only[bu.tv,eS,cm,cW,eH,fg,jy,gT,ey,gE,bu.c,List.cons_append,List.nil_append,List.append_assoc]
theorem bu.ex {v:Tv} (h:aI GS v):∃x:bu,v=x.tv:=by
 obtain⟨vs,rfl,h⟩:=h.st
 obtain⟨v0,_,rfl,h0,h⟩:=h.step
 obtain⟨v1,_,rfl,h1,h⟩:=h.step
 obtain⟨v2,_,rfl,h2,h⟩:=h.step
 obtain⟨v3,_,rfl,h3,h⟩:=h.step
 obtain⟨v4,_,rfl,h4,h⟩:=h.step
 obtain rfl:=h.fin
 obtain⟨n0,rfl,_⟩:=h0.int
 obtain⟨n1,rfl,_⟩:=h1.int
 obtain⟨n2,rfl⟩:=gZ h2
 obtain⟨n3,rfl,_⟩:=h3.int
 obtain⟨n4,rfl⟩:=gZ h4
 exact⟨⟨n0,n1,n2,n3,n4⟩,rfl⟩
theorem bu.of {x:bu} (h:aI GS x.tv) (hw:wt x.tv≤1048576):x.wf:=by
 simp only[bu.tv,gM,cS]at h
 simp only[bu.tv,wt,zK]at hw
 obtain⟨h0,h1,h2,h3,h4,_⟩:=h
 exact⟨dY (ok_int.1 h0),dY (ok_int.1 h1),tq (by omega),dY (ok_int.1 h3),tq (by omega)⟩
def bo.tv (x:bo):Tv:= .r [.i x.height, .i x.n, .i x.idx,CO x.tx,ye x.path]
theorem bo.enc (x:bo):enc Hz x.tv=x.c:=by simp only[bo.tv,eS,cm,cW,eH,fg,jy,gT,ey,gE,bo.c,List.cons_append,List.nil_append,List.append_assoc]
theorem bo.ex {v:Tv} (h:aI Hz v):∃x:bo,v=x.tv:=by
 obtain⟨vs,rfl,h⟩:=h.st
 obtain⟨v0,_,rfl,h0,h⟩:=h.step
 obtain⟨v1,_,rfl,h1,h⟩:=h.step
 obtain⟨v2,_,rfl,h2,h⟩:=h.step
 obtain⟨v3,_,rfl,h3,h⟩:=h.step
 obtain⟨v4,_,rfl,h4,h⟩:=h.step
 obtain rfl:=h.fin
 obtain⟨n0,rfl,_⟩:=h0.int
 obtain⟨n1,rfl,_⟩:=h1.int
 obtain⟨n2,rfl,_⟩:=h2.int
 obtain⟨n3,rfl⟩:=gZ h3
 obtain⟨n4,rfl⟩:=FH h4
 exact⟨⟨n0,n1,n2,n3,n4⟩,rfl⟩
theorem bo.of {x:bo} (h:aI Hz x.tv) (hw:wt x.tv≤1048576):x.wc:=by
 simp only[bo.tv,gM,cS]at h
 simp only[bo.tv,wt,zK]at hw
 obtain⟨h0,h1,h2,h3,h4,_⟩:=h
 exact⟨dY (ok_int.1 h0),dY (ok_int.1 h1),dY (ok_int.1 h2),tq (by omega),ID (by omega)⟩
def aW.tv (m:aW):Tv:= .r [.i m.kind,m.vote.tv,m.qc.tv,m.head.tv,m.block.tv,m.tc.tv,m.proof.tv,m.incl.tv]
theorem aW.enc (m:aW):enc Hs m.tv=m.c:=by simp only[aW.tv,eS,cm,cW,eH,bu.enc,Qc.enc,Head.enc,Block.enc,Tc.enc,Proof.enc,bo.enc,aW.c,bu.c,Qc.c,Head.c,Block.c,Tc.c,Proof.c,bo.c,List.cons_append,List.nil_append,List.append_assoc,List.append_nil]
theorem aW.ex {v:Tv} (h:aI Hs v):∃m:aW,v=m.tv:=by
 obtain⟨vs,rfl,h⟩:=h.st
 obtain⟨v0,_,rfl,h0,h⟩:=h.step
 obtain⟨v1,_,rfl,h1,h⟩:=h.step
 obtain⟨v2,_,rfl,h2,h⟩:=h.step
 obtain⟨v3,_,rfl,h3,h⟩:=h.step
 obtain⟨v4,_,rfl,h4,h⟩:=h.step
 obtain⟨v5,_,rfl,h5,h⟩:=h.step
 obtain⟨v6,_,rfl,h6,h⟩:=h.step
 obtain⟨v7,_,rfl,h7,h⟩:=h.step
 obtain rfl:=h.fin
 obtain⟨n0,rfl,_⟩:=h0.int
 obtain⟨n1,rfl⟩:=bu.ex h1
 obtain⟨n2,rfl⟩:=Qc.ex h2
 obtain⟨n3,rfl⟩:=Head.ex h3
 obtain⟨n4,rfl⟩:=Block.ex h4
 obtain⟨n5,rfl⟩:=Tc.ex h5
 obtain⟨n6,rfl⟩:=Proof.ex h6
 obtain⟨n7,rfl⟩:=bo.ex h7
 exact⟨⟨n0,n1,n2,n3,n4,n5,n6,n7⟩,rfl⟩
theorem aW.of {m:aW} (h:aI Hs m.tv) (hw:wt m.tv≤1048576):m.wc:=by
 simp only[aW.tv,gM,cS]at h
 simp only[aW.tv,wt,zK]at hw
 obtain⟨h0,h1,h2,h3,h4,h5,h6,h7,_⟩:=h
 have hb:wt m.block.tv=wt m.block.head.tv+(wt (ye m.block.txs)+0):=by simp only[Block.tv,wt,zK]
 have hi:wt m.incl.tv=0+(0+(0+(wt (CO m.incl.tx)+(wt (ye m.incl.path)+0)))):=by simp only[bo.tv,wt,zK]
 refine⟨dY (ok_int.1 h0),bu.of h1 (by omega),Qc.of h2 (by omega),Head.of h3 (by omega),⟨Block.of h4 (by omega),fun t ht=> ?_⟩,Tc.of h5 (by omega),Proof.Sp h6 (by omega),bo.of h7 (by omega),?_⟩
 ·have:=(MC m.block.txs).2 t ht
  omega
 ·rw[ME]at hi
  omega
end Go.Eng.F
namespace Go.Eng.F
open Go.Eng.U (dK df Hs)
def dM (m:aW):UInt8:=UInt8.ofNat m.kind.toNat
theorem uy {l:ah} {m:aW} (h:br l m=true):aM l m=true:=by
 simp only[br,Bool.and_eq_true]at h
 exact h.1
theorem Jf {l:ah} {m:aW} (h:aM l m=true):IntKind.u8.wrap m.kind=((dM m).toNat:Int):=by
 have h1:=jB h
 obtain⟨k,hk⟩:∃k:Nat,m.kind=(k:Int):=⟨m.kind.toNat,by omega⟩
 unfold dM
 rw[hk]
 exact R3 (by omega)
abbrev jF:Nat:=133
def tJ:AF:=⟨2,5,[.tmp 4, .tmp 5],(.seq (.ops [.i (.lbox 2 (.s 0)), .i (.lbox 3 (.s 1)), .i (.mov 4 (.c (.val false [.nils]))), .i (.mov 5 (qb false))]) (.seq (.seq (.ops [ql 6 2 2 5 true,ql 7 3 3 45 true, .i (.call 9 159 false [(.s 6),(.s 7)]), .i (.not 9 (.s 8))]) (.cond (.s 9) (.seq (.ops [.i (.mov 4 (.c (.val false [.nils]))), .i (.mov 5 (qb false))]) .ret) .skip)) (.seq (.ops [ql 10 2 2 5 true,qf 11 3 0,ql 12 3 11 1 false, .i (.cvi 13 .u8 (.s 12)), .i (.bsl 14 5 1 1 [.int .u8 0] [(0,1,(.s 13))]),ql 15 3 3 45 true, .i (.call 17 183 false [(.s 10),(.s 14),(.s 15)]), .i (.ext 17 (.s 16) 0), .i (.ext 18 (.s 16) 1),qm 4 17,qm 5 18]) .ret)))⟩
theorem Dk:cd jF=some tJ:=by kernel_rfl
theorem BQ (l:ah) (m:aW) (hw:m.wc):VC cd jF (aE [(true,l.c),(true,m.c)]) (fun rs _=>rs=dw (br l m) (dM m::bP m)):=by
 have e0: [[D.int .u8 ((dM m).toNat:Int)]]=bytes [dM m]:=rfl
 refine aa Dk rfl ?_
 simp(disch:=omega) [tJ,ah.c,aW.c,VY]
 refine av (C9 l m hw) ?_ (ha:=by first|rfl|(simp[ah.c,aW.c,VY] <;>repeat' constructor))
 simp(disch:=omega) [VY]
 refine aw (fun h1=> ?_) (fun h1=> ?_)
 case refine_2=>simp(disch:=omega) [h1,dw,VY]
 have hp:=uy h1
 have hk:cf m.kind 1 7=true:=by
  have:=jB hp
  simp only[cf,decide_eq_true_eq]
  omega
 simp(disch:=omega) [h1,Jf hp,e0,VY]
 refine av ((bB l [dM m] m hw hk (by simp)).re (dg hp)) ?_ (ha:=by first|rfl|(simp[ah.c,aW.c,VY] <;>repeat' constructor))
 simp(disch:=omega) [h1,dw,VY]
theorem Kb {l:ah} {m:aW} (h:aM l m=true):(bP m).length≤20000:=by
 unfold aM at h
 unfold bP
 split at h
 ·rename_i g;rw[if_pos g];have:=M7 (Gj h);omega
 split at h
 ·rename_i g1 g;rw[if_neg g1,if_pos g];have:=FG (lC h);omega
 split at h
 ·rename_i g1 g2 g;rw[if_neg g1,if_neg g2,if_pos g];have:=kl (gq h);omega
 split at h
 ·rename_i g1 g2 g3 g
  rw[if_neg g1,if_neg g2,if_neg g3,if_pos g]
  have k1:=kl (gq (lK h))
  have k2:=yH h
  have k3:=uk (yQ h)
  have k4:=dP (n:=m.block.txs.length) (by omega)
  simp only[gR]at k3
  simp only[oT,List.length_append]
  omega
 split at h
 ·rename_i g1 g2 g3 g4 g
  rw[if_neg g1,if_neg g2,if_neg g3,if_neg g4,if_pos g]
  obtain⟨k1,k2,k3⟩:=Hk h
  have k4:=xw k3
  have k5:=aT k2
  have k6:=dP (n:=m.tc.entries.length) (by omega)
  simp only[kz]at k4
  simp only[O6,List.length_append]
  omega
 split at h
 ·rename_i g1 g2 g3 g4 g5 g
  rw[if_neg g1,if_neg g2,if_neg g3,if_neg g4,if_neg g5,if_pos g]
  obtain⟨k1,k2,k3⟩:=yq h
  have k4:=uD (fun e he=>gq (k3 e he))
  have k5:=FG (lC k2)
  have k6:=dP (n:=m.proof.heads.length) (by omega)
  simp only[gk]at k4
  simp only[o7,List.length_append]
  omega
 split at h
 ·rename_i g1 g2 g3 g4 g5 g6 g
  rw[if_neg g1,if_neg g2,if_neg g3,if_neg g4,if_neg g5,if_neg g6]
  obtain⟨k1,k2,k3,k4,k5,k6⟩:=BG h
  have v1:=aT k1
  have v2:=aT k2
  have v3:=aT k3
  have v4:=xd (x:=m.incl.tx) (by omega)
  have v5:=r8 k6 (Nat.le_refl _)
  rw[List.take_length]at v5
  simp only[yz,List.length_append]
  omega
 ·cases h
def IG (l:ah) (m:aW):Bytes:=if br l m then dM m::bP m else []
theorem Hw (l:ah) (m:aW):(IG l m).length≤20001:=by
 unfold IG
 split
 ·rename_i h
  have:=Kb (uy h)
  simp only[List.length_cons]
  omega
 ·simp
end Go.Eng.F
namespace Go.Eng.F
def gv:Bytes→Nat→Nat→Nat×Nat×Nat
 | [],_,_=>(0,0,1)
 |c::r,k,n=>
  if(0 < k∧c.toNat=0)∨(k=8∧128≤c.toNat)then(0,0,2)
  else if c.toNat < 128 then(if n+c.toNat * 128 ^ k≤1152921504606846975 then(n+c.toNat * 128 ^ k,k+1,0)else(0,0,2))
  else gv r (k+1) (n+(c.toNat - 128) * 128 ^ k)
structure Rd where
 at_:Nat
 er:Nat
def getVar (b:Bytes) (a:Nat):Nat×Rd:=
 let x:=gv (b.drop a) 0 0
 if x.2.2=0 then(x.1,⟨a+x.2.1,0⟩)else(0,⟨0,x.2.2⟩)
def dQ (b:Bytes) (a n:Nat):Bytes×Rd:=if a+n≤b.length then((b.drop a).take n,⟨a+n,0⟩)else([],⟨0,1⟩)
def gz (b:Bytes) (a m:Nat):Bytes×Rd:=
 let x:=getVar b a
 if x.2.er≠0 then([],⟨0,x.2.er⟩)else if m < x.1 then([],⟨0,3⟩)else dQ b x.2.at_ x.1
def b6 (b:Bytes) (a:Nat) (n:Int):Bytes×Rd:=
 let x:=dQ b a (wv n).toNat
 if x.2.er≠0 then([],⟨0,x.2.er⟩)else if d5 x.1 n then x else([],⟨0,4⟩)
def bc (b:Bytes) (r:Rd):Nat×Rd:=if r.er=0 then getVar b r.at_ else(0,r)
def bL (r:Rd) (bad:Bool) (c:Nat):Rd:=if r.er=0∧bad=true then⟨r.at_,c⟩else r
def aS (b:Bytes) (r:Rd) (n:Int) (c:Nat):Nat×Rd:=((bc b r).1,bL (bc b r).2 (decide (n≤((bc b r).1:Int))) c)
def bA (b:Bytes) (r:Rd) (n:Nat):Bytes×Rd:=if r.er=0 then dQ b r.at_ n else([],r)
def dA (b:Bytes) (r:Rd) (m:Nat):Bytes×Rd:=if r.er=0 then gz b r.at_ m else([],r)
def Rd.wf (b:Bytes) (r:Rd):Prop:=r.at_≤b.length∧r.er≤9
theorem O2:∀(s:Bytes) (k n:Nat),k≤8→(gv s k n).2.1≤k+s.length∧(gv s k n).2.2≤2∧(gv s k n).1≤1152921504606846975∧((gv s k n).2.2=0→k < (gv s k n).2.1)
 | [],k,n,h=>by simp[gv]
 |c::r,k,n,h=>by
  rw[gv]
  split
  ·simp
  ·rename_i h1
   split
   ·split
    ·rename_i h3;simp only[List.length_cons];omega
    ·simp
   ·rename_i h2
    have:=O2 r (k+1) (n+(c.toNat - 128) * 128 ^ k) (by omega)
    simp only[List.length_cons]
    omega
theorem xb {b:Bytes} {a:Nat} (h:a≤b.length):(getVar b a).2.wf b∧(getVar b a).1≤1152921504606846975:=by
 have h1:=O2 (b.drop a) 0 0 (by omega)
 simp only[List.length_drop]at h1
 simp only[getVar]
 split
 ·exact⟨⟨by simp only;omega,by simp⟩,h1.2.2.1⟩
 ·exact⟨⟨by simp,by simp only;omega⟩,by simp⟩
theorem r9 (b:Bytes) (a n:Nat):(dQ b a n).2.wf b∧(dQ b a n).1.length≤n∧(dQ b a n).1.length≤b.length:=by
 unfold dQ
 split
 ·exact⟨⟨by simp only;omega,by simp⟩,by simp;omega,by simp;omega⟩
 ·exact⟨⟨by simp,by simp⟩,by simp,by simp⟩
theorem Ii {b:Bytes} {a m:Nat} (h:a≤b.length):(gz b a m).2.wf b∧(gz b a m).1.length≤m∧(gz b a m).1.length≤b.length:=by
 have h1:=xb h
 simp only[gz]
 split
 ·exact⟨⟨by simp,h1.1.2⟩,by simp,by simp⟩
 ·split
  ·exact⟨⟨by simp,by simp⟩,by simp,by simp⟩
  ·have:=r9 b (getVar b a).2.at_ (getVar b a).1
   exact⟨this.1,by omega,this.2.2⟩
theorem Ji (b:Bytes) (a:Nat) (n:Int):(b6 b a n).2.wf b∧(b6 b a n).1.length≤b.length:=by
 have h1:=r9 b a (wv n).toNat
 simp only[b6]
 split
 ·exact⟨⟨by simp,h1.1.2⟩,by simp⟩
 ·split
  ·exact⟨h1.1,h1.2.2⟩
  ·exact⟨⟨by simp,by simp⟩,by simp⟩
theorem dk {b:Bytes} {r:Rd} (h:r.wf b):(bc b r).2.wf b∧(bc b r).1≤1152921504606846975:=by
 unfold bc
 split
 ·exact xb h.1
 ·exact⟨h,by simp⟩
theorem eD {b:Bytes} {r:Rd} (h:r.wf b) {bad:Bool} {c:Nat} (hc:c≤9):(bL r bad c).wf b:=by
 unfold bL
 split
 ·exact⟨h.1,hc⟩
 ·exact h
theorem eX {b:Bytes} {r:Rd} (h:r.wf b) {n:Int} {c:Nat} (hc:c≤9):(aS b r n c).2.wf b∧(aS b r n c).1≤1152921504606846975:=⟨eD (dk h).1 hc,(dk h).2⟩
theorem eI {b:Bytes} {r:Rd} (h:r.wf b) (n:Nat):(bA b r n).2.wf b∧(bA b r n).1.length≤n∧(bA b r n).1.length≤b.length:=by
 unfold bA
 split
 ·exact r9 b _ n
 ·exact⟨h,by simp,by simp⟩
theorem uZ {b:Bytes} {r:Rd} (h:r.wf b) (m:Nat):(dA b r m).2.wf b∧(dA b r m).1.length≤m∧(dA b r m).1.length≤b.length:=by
 unfold dA
 split
 ·exact Ii h.1
 ·exact⟨h,by simp,by simp⟩
def Nj (x:Nat×Rd):List (Bool×List E):= [(false,[.p (.int .i64 (x.1:Int))]),(false,[.p (.int .i64 (x.2.at_:Int))]),(false,[.p (.int .i64 (x.2.er:Int))])]
def JJ (x:Bytes×Rd):List (Bool×List E):= [(false,[.o true (some (5,1)) (bytes x.1)]),(false,[.p (.int .i64 (x.2.at_:Int))]),(false,[.p (.int .i64 (x.2.er:Int))])]
theorem OB {b:Bytes} {a k n:Nat} (h:a+k < b.length):gv (b.drop (a+k)) k n=(if(0 < k∧b[a+k].toNat=0)∨(k=8∧128≤b[a+k].toNat)then(0,0,2)
 else if b[a+k].toNat < 128 then(if n+b[a+k].toNat * 128 ^ k≤1152921504606846975 then(n+b[a+k].toNat * 128 ^ k,k+1,0)else(0,0,2))
 else gv (b.drop (a+k+1)) (k+1) (n+(b[a+k].toNat - 128) * 128 ^ k)):=by
 rw[List.drop_eq_getElem_cons h,gv]
theorem Qz {b:Bytes} {a k n:Nat} (h:b.length≤a+k):gv (b.drop (a+k)) k n=(0,0,1):=by
 rw[List.drop_eq_nil_of_le h,gv]
end Go.Eng.F
namespace Go.Eng.F
def eU {α:Type} (f:Rd→α×Rd):Nat→Rd→List α×Rd
 |0,r=>([],r)
 |k+1,r=>((f r).1::(eU f k (f r).2).1,(eU f k (f r).2).2)
def cn {α:Type} (f:Rd→α×Rd):Nat→Rd→List α×Rd
 |0,r=>([],r)
 |k+1,r=>if r.er=0 then((f r).1::(cn f k (f r).2).1,(cn f k (f r).2).2)else([],r)
theorem Jq {α:Type} {b:Bytes} {f:Rd→α×Rd} (h:∀r,r.wf b→(f r).2.wf b):∀(k:Nat) (r:Rd),r.wf b→(eU f k r).2.wf b
 |0,r,hr=>hr
 |k+1,r,hr=>Jq h k _ (h r hr)
theorem wA {α:Type} {f:Rd→α×Rd}:∀(k:Nat) (r:Rd),(eU f k r).1.length=k
 |0,r=>rfl
 |k+1,r=>by simp only[eU,List.length_cons,wA k]
theorem Hj {α:Type} {b:Bytes} {f:Rd→α×Rd} {p:α→Prop} (h:∀r,r.wf b→(f r).2.wf b∧p (f r).1):∀(k:Nat) (r:Rd),r.wf b→∀x∈(eU f k r).1,p x
 |0,r,hr,x,hx=>by simp[eU]at hx
 |k+1,r,hr,x,hx=>by
  simp only[eU]at hx
  rcases List.mem_cons.1 hx with rfl|hx
  ·exact(h r hr).2
  ·exact Hj h k _ (h r hr).1 x hx
theorem xL {α:Type} {b:Bytes} {f:Rd→α×Rd} {p:α→Prop} (h:∀r,r.wf b→(f r).2.wf b∧p (f r).1):∀(k:Nat) (r:Rd),r.wf b→∀x∈(cn f k r).1,p x
 |0,r,hr,x,hx=>by simp[cn]at hx
 |k+1,r,hr,x,hx=>by
  rw[cn]at hx
  split at hx
  ·rcases List.mem_cons.1 hx with rfl|hx
   ·exact(h r hr).2
   ·exact xL h k _ (h r hr).1 x hx
  ·cases hx
def gJ (b:Bytes) (l:ah) (r:Rd):bu×Rd:=
 let v:=bc b r
 let h:=bc b v.2
 let k:=bA b h.2 32
 let w:=aS b k.2 l.n 5
 let t:=bA b w.2 32
 (⟨v.1,h.1,k.1,w.1,t.1⟩,t.2)
def uI (b:Bytes) (l:ah) (r:Rd):Qc×Rd:=
 let v:=bc b r
 let h:=bc b v.2
 let k:=bA b h.2 32
 if k.2.er=0 then
  let x:=b6 b k.2.at_ l.n
  let t:=eU (fun r=>bA b r 32) (aQ x.1).length x.2
  (⟨v.1,h.1,k.1,x.1,t.1⟩,t.2)
 else(⟨v.1,h.1,k.1,[],[]⟩,k.2)
def cV (b:Bytes) (l:ah) (r:Rd):Head×Rd:=
 let v:=bc b r
 let h:=bc b v.2
 let p:=aS b (bL h.2 (decide (h.1=0)) 5) l.n 5
 let pa:=bA b p.2 32
 let ro:=bA b pa.2 32
 let q:=uI b l ro.2
 (⟨v.1,h.1,p.1,pa.1,ro.1,q.1⟩,bL q.2 (!fits ⟨v.1,h.1,p.1,pa.1,ro.1,q.1⟩) 6)
def dI (b:Bytes) (l:ah) (r:Rd):Block×Rd:=
 let h:=cV b l r
 let n:=aS b h.2 (l.txs+1) 3
 let x:=cn (fun r=>dA b r l.tx.toNat) n.1 n.2
 (⟨h.1,x.1⟩,bL x.2 (decide (h.1.root≠aV x.1)) 7)
def fT (b:Bytes) (l:ah) (view:Int):Nat→Int→Rd→List Entry×Rd
 |0,_,r=>([],r)
 |k+1,bf,r=>if r.er=0 then
   let w:=aS b r l.n 5
   let h:=aS b (bL w.2 (decide ((w.1:Int)≤bf)) 6) view 6
   let t:=bA b h.2 32
   (⟨w.1,h.1,t.1⟩::(fT b l view k w.1 t.2).1,(fT b l view k w.1 t.2).2)
  else([],r)
def Fh (b:Bytes) (l:ah) (r:Rd):Tc×Rd:=
 let v:=bc b r
 let n:=aS b v.2 (l.n+1) 3
 let e:=fT b l v.1 n.1 (-1) n.2
 (⟨v.1,e.1⟩,e.2)
def dv (b:Bytes) (l:ah) (r:Rd):Proof×Rd:=
 let n:=bc b r
 let h:=cn (cV b l) n.1 (bL (bL n.2 (decide (n.1 < 3)) 5) (decide (l.heads < (n.1:Int))) 3)
 let q:=uI b l h.2
 (⟨h.1,q.1⟩,bL q.2 (!qT ⟨h.1,q.1⟩) 6)
def bZ (b:Bytes) (l:ah) (r:Rd):(Nat×Nat×Nat×Bytes)×Rd:=
 let h:=bc b r
 let n:=bc b h.2
 let a:=aS b (bL (bL n.2 (decide (n.1=0)) 5) (decide (l.txs < (n.1:Int))) 3) n.1 5
 let t:=dA b a.2 l.tx.toNat
 ((h.1,n.1,a.1,t.1),t.2)
def At (b:Bytes) (a:Nat) (s:Bytes):Prop:=∃t,b.drop a=s++t
theorem At.app {b:Bytes} {a:Nat} {s t:Bytes} (h:At b a (s++t)):At b a s∧At b (a+s.length) t:=by
 obtain⟨u,h⟩:=h
 refine⟨⟨t++u,by rw[h,List.append_assoc]⟩,u,?_⟩
 rw[←List.drop_drop,h,List.append_assoc,List.drop_left]
theorem At.len {b:Bytes} {a:Nat} {s:Bytes} (h:At b a s):a+s.length≤b.length∨s= []:=by
 obtain⟨u,h⟩:=h
 have h2:=congrArg List.length h
 simp only[List.length_drop,List.length_append]at h2
 by_cases hs:s= []
 ·exact .inr hs
 ·have:=List.length_pos_iff.2 hs
  exact .inl (by omega)
theorem At.take {b:Bytes} {a:Nat} {s:Bytes} (h:At b a s):(b.drop a).take s.length=s:=by
 obtain⟨u,h⟩:=h
 rw[h,List.take_left]
theorem Qo {n:Nat} (h:n < 256):(UInt8.ofNat n).toNat=n:=by simp[UInt8.toNat_ofNat'];omega
end Go.Eng.F
namespace Go.Eng.F
def bC (b:Bytes) (r:Rd):List E0:= [.p (.sl (bytes b)), .p (.int .i64 (r.at_:Int)), .p (.int .i64 (r.er:Int))]
theorem gY (b:Bytes) (a n:Nat) (ha:a≤b.length) (hb:b.length≤1073741824) (hn:n≤2000000000000000000):VC cd jL (aE [(false,[.sl (bytes b)]),(false,[.int .i64 (a:Int)]),(false,[.int .i64 (n:Int)])]) (fun rs _=>rs=JJ (dQ b a n)):=by
 by_cases h:a+n≤b.length
 ·refine(rF b a n h hb).mono fun rs _ q=> ?_
  rw[q,JJ,dQ,if_pos h]
  rfl
 ·refine VC.lL ?_
  have e1:cf (a:Int) 0 (b.length:Int)=true:=by simp[cf];omega
  have e2:cf (n:Int) 0 ((b.length:Int) - (a:Int))=false:=by simp[cf];omega
  refine aa tE rfl ?_
  simp(disch:=omega) [jE,VY]
  refine aj (bq _ _ _) rfl rfl ?_
  simp(disch:=omega) [e1,VY]
  refine aj (bq _ _ _) rfl rfl ?_
  simp(disch:=omega) [e2,aG,aL,aR,ag,JJ,dQ,h,VY]
theorem P4 (c:UInt8):aA .and .u8 (c.toNat:Int) 127=((c.toNat % 128:Nat):Int):=by
 have h:=c.toNat_lt
 show IntKind.u8.wrap ((BitVec.ofInt 8 (c.toNat:Int) &&& BitVec.ofInt 8 127).toNat:Int)=_
 rw[BitVec.toNat_and,show BitVec.ofInt 8 (c.toNat:Int)=BitVec.ofNat 8 c.toNat from rfl,BitVec.toNat_ofNat,Nat.mod_eq_of_lt (by omega),show(BitVec.ofInt 8 127).toNat=2 ^ 7 - 1 from rfl,Nat.and_two_pow_sub_one_eq_mod]
 show(((c.toNat % 128:Nat):Int)) % 256=_
 omega
theorem IW (k:Nat):(128:Nat) ^ k=2 ^ (7 * k):=by rw[Nat.pow_mul]
theorem Sv {n c k:Nat} (hn:n < 128 ^ k) (hc:c < 128) (hk:k≤8):aA .or .i64 (n:Int) ((c * 128 ^ k:Nat):Int)=((n+c * 128 ^ k:Nat):Int)∧n+c * 128 ^ k < 128 ^ (k+1)∧c * 128 ^ k < 9223372036854775808∧n+c * 128 ^ k < 9223372036854775808:=by
 have h1:n+c * 128 ^ k < 128 ^ (k+1):=by
  have h2:c * 128 ^ k≤127 * 128 ^ k:=Nat.mul_le_mul_right _ (by omega)
  rw[Nat.pow_succ]
  omega
 have h3:128 ^ (k+1)≤128 ^ 9:=Nat.pow_le_pow_right (by omega) (by omega)
 have h4:(128:Nat) ^ 9=9223372036854775808:=by decide
 refine⟨?_,h1,by omega,by omega⟩
 show IntKind.i64.wrap ((BitVec.ofInt 64 (n:Int)|||BitVec.ofInt 64 ((c * 128 ^ k:Nat):Int)).toNat:Int)=_
 rw[BitVec.toNat_or,show BitVec.ofInt 64 (n:Int)=BitVec.ofNat 64 n from rfl,show BitVec.ofInt 64 ((c * 128 ^ k:Nat):Int)=BitVec.ofNat 64 (c * 128 ^ k)from rfl,BitVec.toNat_ofNat,BitVec.toNat_ofNat,Nat.mod_eq_of_lt (by omega),Nat.mod_eq_of_lt (by omega)]
 rw[IW]at hn h1⊢
 rw[Nat.mul_comm c,Nat.or_comm,←Nat.two_pow_add_eq_or_of_lt hn,Nat.add_comm]
 rw[IW,Nat.mul_comm c]at *
 exact yu (by omega) (by omega)
abbrev uf:Nat:=243
def tk:AF:=⟨2,6,[.tmp 4, .tmp 5, .tmp 6],(.seq (.ops [.i (.mov 4 (qi 0)), .i (.mov 5 (qi 0)), .i (.mov 6 (qi 0))]) (.seq (.seq (.ops [qm 10 1,qm 11 0,qn 12 11, .i (.call 14 158 false [(.s 10),(qi 0),(.s 12)]), .i (.not 14 (.s 13))]) (.cond (.s 14) (.seq (.ops [.i (.mov 4 (qi 0)), .i (.mov 5 (qi 0)), .i (.mov 6 (qi 1))]) .ret) .skip)) (.seq (.ops [.i (.mov 7 (qi 0))]) (.seq (.ops [.i (.mov 8 (qi 0))]) (.block 0 (.loop [60,59,58,57,56,55,54,53,52,51,50,49,48,47,46,45,44,43,42,41,40,39,38,37,36,35,34,33,32,31,30,29,28,27,26,25,24,23,22,21,20,19,18,17,16,15,9] (.seq (.block 1 (.seq (.seq (.ops [qm 17 1,qm 18 8,qd 19 .add 17 18,qm 20 0,qn 21 20,qd 22 .geq 19 21]) (.cond (.s 22) (.seq (.ops [.i (.mov 4 (qi 0)), .i (.mov 5 (qi 0)), .i (.mov 6 (qi 1))]) .ret) .skip)) (.seq (.ops [qm 23 0,qm 24 1,qm 25 8,qd 26 .add 24 25, .i (.iad 27 (.s 23) (.s 26) 1), .i (.ldh 28 (.s 27) 1 false),qm 9 28]) (.seq (.seq (.ops [qm 29 8, .i (.bin 30 .gtr (.s 29) (qi 0)),qm 31 30, .g 31 true 33 (.mov 32 (.s 9)), .g 31 true 34 (.bin 33 .eql (.s 32) (.c (.val false [.int .u8 0]))), .i (.pick 34 (.s 31) (.s 33) (qb false)),qm 35 34, .g 35 false 37 (.mov 36 (.s 8)), .g 35 false 38 (.bin 37 .eql (.s 36) (qi 8)), .g 35 false 39 (.mov 38 (.s 37)), .g 38 true 40 (.mov 39 (.s 9)), .g 38 true 41 (.bin 40 .geq (.s 39) (.c (.val false [.int .u8 128]))), .g 35 false 42 (.pick 41 (.s 38) (.s 40) (qb false)), .i (.pick 42 (.s 35) (qb true) (.s 41))]) (.cond (.s 42) (.seq (.ops [.i (.mov 4 (qi 0)), .i (.mov 5 (qi 0)), .i (.mov 6 (qi 2))]) .ret) .skip)) (.seq (.ops [qm 43 7,qm 44 9, .i (.bin 45 .and (.s 44) (.c (.val false [.int .u8 127]))), .i (.cvi 46 .i64 (.s 45)),qm 47 8, .i (.bin 48 .mul (qi 7) (.s 47)),qd 49 .shl 46 48,qd 50 .or 43 49,qm 7 50]) (.seq (.ops [qm 51 9, .i (.bin 52 .lss (.s 51) (.c (.val false [.int .u8 128])))]) (.cond (.s 52) (.seq (.seq (.ops [qm 53 7,qk 55 129 53, .i (.not 55 (.s 54))]) (.cond (.s 55) (.seq (.ops [.i (.mov 4 (qi 0)), .i (.mov 5 (qi 0)), .i (.mov 6 (qi 2))]) .ret) .skip)) (.seq (.ops [qm 56 7,qm 57 1,qm 58 8,qd 59 .add 57 58, .i (.bin 60 .add (.s 59) (qi 1)),qm 4 56,qm 5 60, .i (.mov 6 (qi 0))]) .ret)) .skip))))))) (.ops [qm 15 8, .i (.bin 16 .add (.s 15) (qi 1)),qm 8 16]))))))))⟩
theorem Ds:cd uf=some tk:=by kernel_rfl
theorem oX (b:Bytes) (a:Nat) (ha:a≤b.length) (hb:b.length≤1073741824):VC cd uf (aE [(false,[.sl (bytes b)]),(false,[.int .i64 (a:Int)])]) (fun rs _=>rs=Nj (getVar b a)):=by
 have e1:cf (a:Int) 0 (b.length:Int)=true:=by simp[cf];omega
 refine aa Ds rfl ?_
 simp(disch:=omega) [tk,VY]
 refine aj (bq _ _ _) rfl rfl ?_
 simp(disch:=omega) [e1,VY]
 refine bx (σ:=Nat×Nat) (f1:=_) (es0:=_) (by simp(disch:=omega) [VY];rfl) (by simp(disch:=omega) [VY];rfl) (fun p=> [(8, .val false [.int .i64 (p.1:Int)]),(7, .val false [.int .i64 (p.2:Int)])]) (fun _=> []) (fun p g=>g+(a+p.1)=b.length∧p.1≤8∧p.2 < 128 ^ p.1∧gv (b.drop (a+p.1)) p.1 p.2=gv (b.drop a) 0 0) (0,0) (b.length - a) (by simp(disch:=omega) [VY]) (by simp(disch:=omega) [VY]) ⟨by omega,by omega,by simp,by simp⟩ ?_
 rintro⟨k,n⟩ nx g ⟨h1,h2,h3,h4⟩ P hP
 simp only at h1 h2 h3 h4
 simp(disch:=omega) [VY]
 refine ab (fun h5=> ?_) (fun h5=> ?_)
 ·have e:getVar b a=(0,⟨0,1⟩):=by simp only[getVar,←h4,Qz (show b.length≤a+k by omega)];simp
  simp(disch:=omega) [Nj,e,VY]
 have hi:a+k < b.length:=by omega
 rw[OB hi]at h4
 have hu:=b[a+k].toNat_lt
 have e6:(0:Int)≤(a:Int)+(k:Int):=by omega
 have e7:((a:Int)+(k:Int)).toNat=a+k:=by omega
 simp(disch:=omega) [e6,e7,bz hi,VY]
 generalize b[a+k]=c at h4 hu⊢
 by_cases hA:(0 < k∧c.toNat=0)∨(k=8∧128≤c.toNat)
 ·have e:getVar b a=(0,⟨0,2⟩):=by
   rw[if_pos hA]at h4
   simp only[getVar,←h4]
   simp
  rcases hA with⟨g1,g2⟩|⟨g3,g4⟩
  ·simp(disch:=omega) [g1,g2,Nj,e,VY]
  ·have g1:0 < k:=by omega
   have g2:¬c.toNat=0:=by omega
   have g4':(128:Int)≤(c.toNat:Int):=by omega
   have g3':(k:Int)=8:=by omega
   simp(disch:=omega) [g1,g2,g3',g4',Nj,e,VY]
 rw[if_neg hA]at h4
 have hcs:(¬0 < k∧¬(k:Int)=8)∨(0 < k∧¬c.toNat=0∧(k:Int)=8∧¬(128:Int)≤(c.toNat:Int))∨(0 < k∧¬c.toNat=0∧¬(k:Int)=8):=by omega
 have f1:¬(7 * (k:Int) < 0):=by omega
 have f2:(7 * (k:Int)).toNat=7 * k:=by omega
 obtain⟨d,hd⟩:∃d:Nat,d=c.toNat % 128:=⟨_,rfl⟩
 have ha127:=P4 c
 rw[←hd]at ha127
 obtain⟨o1,o2,o3,o4⟩:=Sv h3 (show d < 128 by omega) h2
 have hmn:min (7 * k) IntKind.i64.bits=7 * k:=Nat.min_eq_left (by show 7 * k≤64;omega)
 obtain⟨q,hq⟩:∃q,q=d * 128 ^ k:=⟨_,rfl⟩
 obtain⟨m,hm⟩:∃m,m=n+q:=⟨_,rfl⟩
 rw[←hq]at o1 o2 o3 o4
 rw[←hm]at o1 o2 o4
 have tP:(d:Int) * 2 ^ (7 * k)=(q:Int):=by rw[hq,IW];simp
 have tB:(k:Int)=8→(d:Int) * 2 ^ min 56 IntKind.i64.bits=(q:Int):=fun h=>by
  have h8:k=8:=by omega
  rw[←tP,h8]
  rfl
 have tC:(k:Int)=8→(d:Int) * 72057594037927936=(q:Int):=fun h=>by
  have h8:k=8:=by omega
  rw[←tP,h8]
  rfl
 rcases hcs with⟨g1,g3⟩|⟨g1,g2,g3,g4⟩|⟨g1,g2,g3⟩
 case' inl=>simp(disch:=omega) [g1,g3,ha127,f1,f2,hmn,tP,o1,VY]
 case' inr.inl=>simp(disch:=omega) [g1,g2,g3,g4,ha127,tB g3,tC g3,o1,VY]
 case' inr.inr=>simp(disch:=omega) [g1,g2,g3,ha127,f1,f2,hmn,tP,o1,VY]
 all_goals
  refine ab (fun g6=> ?_) (fun g6=> ?_)
  ·have hdc:d=c.toNat:=by omega
   rw[if_pos (by omega),←hdc,←hq,←hm]at h4
   simp(disch:=omega) [VY]
   refine aj (Hu _) rfl rfl ?_
   simp(disch:=omega) [VY]
   refine aw (fun g7=> ?_) (fun g7=> ?_)
   ·have g8:m≤1152921504606846975:=by have:=cX g7;omega
    have e:getVar b a=(m,⟨a+k+1,0⟩):=by
     rw[if_pos g8]at h4
     simp only[getVar,←h4]
     simp[Nat.add_assoc]
    first
     |(simp(disch:=omega) [g7,Nj,e,VY];done)
     |(have e9:k=8:=by omega
       subst e9
       simp(disch:=omega) [g7,Nj,e,VY])
   ·have g8:¬m≤1152921504606846975:=by have:=O9 g7;omega
    have e:getVar b a=(0,⟨0,2⟩):=by
     rw[if_neg g8]at h4
     simp only[getVar,←h4]
     simp
    simp(disch:=omega) [g7,Nj,e,VY]
  ·first
    |(exfalso;omega)
    |(have hdc:d=c.toNat - 128:=by omega
      rw[if_neg (by omega),←hdc,←hq,←hm]at h4
      simp(disch:=omega) [VY]
      exact hP (k+1,m) (g - 1) _ _ (by omega) ⟨by simp only;omega,by simp only;omega,o2,h4⟩ (by simp(disch:=omega) [VY]) (by simp(disch:=omega) [VY]))
abbrev oF:Nat:=255
def rz:AF:=⟨3,5,[.tmp 6, .tmp 7, .tmp 8],(.seq (.ops [.i (.mov 6 (.c (.val false [.nils]))), .i (.mov 7 (qi 0)), .i (.mov 8 (qi 0))]) (.seq (.ops [qm 12 0,qm 13 1, .i (.call 15 243 false [(.s 12),(.s 13)]),qm 11 14, .i (.ext 15 (.s 11) 0), .i (.ext 16 (.s 11) 1), .i (.ext 17 (.s 11) 2),qm 9 15,qm 1 16,qm 10 17]) (.seq (.seq (.ops [qm 18 10, .i (.bin 19 .neq (.s 18) (qi 0))]) (.cond (.s 19) (.seq (.ops [qm 20 10, .i (.mov 6 (.c (.val false [.nils]))), .i (.mov 7 (qi 0)),qm 8 20]) .ret) .skip)) (.seq (.seq (.ops [qm 21 9,qm 22 2,qd 23 .gtr 21 22]) (.cond (.s 23) (.seq (.ops [.i (.mov 6 (.c (.val false [.nils]))), .i (.mov 7 (qi 0)), .i (.mov 8 (qi 3))]) .ret) .skip)) (.seq (.ops [qm 24 0,qm 25 1,qm 26 9, .i (.call 28 248 false [(.s 24),(.s 25),(.s 26)]), .i (.ext 28 (.s 27) 0), .i (.ext 29 (.s 27) 1), .i (.ext 30 (.s 27) 2),qm 6 28,qm 7 29,qm 8 30]) .ret)))))⟩
theorem Bm:cd oF=some rz:=by kernel_rfl
theorem zY (b:Bytes) (a m:Nat) (ha:a≤b.length) (hb:b.length≤1073741824) (hm:m≤1073741824):VC cd oF (aE [(false,[.sl (bytes b)]),(false,[.int .i64 (a:Int)]),(false,[.int .i64 (m:Int)])]) (fun rs _=>rs=JJ (gz b a m)):=by
 refine VC.lL ?_
 have hv:=xb ha
 refine aa Bm rfl ?_
 simp(disch:=omega) [rz,VY]
 refine aj (oX b a ha hb) rfl rfl ?_
 generalize hx:getVar b a=x at hv
 obtain⟨⟨h1,h2⟩,h3⟩:=hv
 simp(disch:=omega) [Nj,VY]
 by_cases h4:x.2.er=0
 ·simp(disch:=omega) [h4,VY]
  by_cases h5:m < x.1
  ·simp(disch:=omega) [h5,aG,aL,aR,ag,JJ,gz,hx,h4,VY]
  ·simp(disch:=omega) [h5,VY]
   refine aj (gY b x.2.at_ x.1 h1 hb (by omega)) rfl rfl ?_
   simp(disch:=omega) [aG,aL,aR,ag,JJ,gz,hx,h4,h5,VY]
 ·simp(disch:=omega) [h4,aG,aL,aR,ag,JJ,gz,hx,VY]
abbrev oY:Nat:=170
def pk:AF:=⟨3,6,[.tmp 6, .tmp 7, .tmp 8],(.seq (.ops [.i (.mov 6 (.c (.val false [.nils]))), .i (.mov 7 (qi 0)), .i (.mov 8 (qi 0))]) (.seq (.seq (.ops [qm 12 2, .i (.call 14 158 false [(.s 12),(qi 1),(qi 10)]), .i (.not 14 (.s 13))]) (.cond (.s 14) (.seq (.ops [.i (.mov 6 (.c (.val false [.nils]))), .i (.mov 7 (qi 0)), .i (.mov 8 (qi 5))]) .ret) .skip)) (.seq (.ops [qm 16 0,qm 17 1,qm 18 2,qk 20 245 18, .i (.call 21 248 false [(.s 16),(.s 17),(.s 19)]),qm 15 20, .i (.ext 21 (.s 15) 0), .i (.ext 22 (.s 15) 1), .i (.ext 23 (.s 15) 2),qm 9 21,qm 10 22,qm 11 23]) (.seq (.seq (.ops [qm 24 11, .i (.bin 25 .neq (.s 24) (qi 0))]) (.cond (.s 25) (.seq (.ops [qm 26 11, .i (.mov 6 (.c (.val false [.nils]))), .i (.mov 7 (qi 0)),qm 8 26]) .ret) .skip)) (.seq (.seq (.ops [qm 27 9,qm 28 2, .i (.call 30 168 false [(.s 27),(.s 28)]), .i (.not 30 (.s 29))]) (.cond (.s 30) (.seq (.ops [.i (.mov 6 (.c (.val false [.nils]))), .i (.mov 7 (qi 0)), .i (.mov 8 (qi 4))]) .ret) .skip)) (.seq (.ops [qm 31 9,qm 32 10,qm 6 31,qm 7 32, .i (.mov 8 (qi 0))]) .ret))))))⟩
theorem AB:cd oY=some pk:=by kernel_rfl
theorem zn (b:Bytes) (a:Nat) (n:Int) (hn:1≤n∧n≤10) (ha:a≤b.length) (hb:b.length≤1073741824):VC cd oY (aE [(false,[.sl (bytes b)]),(false,[.int .i64 (a:Int)]),(false,[.int .i64 n])]) (fun rs _=>rs=JJ (b6 b a n)):=by
 refine VC.lL ?_
 have e1:cf n 1 10=true:=by simp[cf];omega
 have e2:((wv n).toNat:Int)=wv n:=by have:=wL hn;unfold wv at *;split <;>omega
 have e3:(wv n).toNat≤2:=by have:=wL hn;omega
 have hv:=r9 b a (wv n).toNat
 refine aa AB rfl ?_
 simp(disch:=omega) [pk,VY]
 refine aj (bq _ _ _) rfl rfl ?_
 simp(disch:=omega) [e1,VY]
 refine aj (k9 n (by omega) (by omega)) rfl rfl ?_
 simp(disch:=omega) [VY]
 refine av (gY b a (wv n).toNat ha hb (by omega)) ?_ (ha:=by first|rfl|(simp[e2,VY] <;>repeat' constructor))
 generalize hx:dQ b a (wv n).toNat=x at hv
 obtain⟨⟨h1,h2⟩,h3,h5⟩:=hv
 simp(disch:=omega) [JJ,VY]
 by_cases h4:x.2.er=0
 ·simp(disch:=omega) [h4,VY]
  refine av (Bk x.1 n (by omega) (by omega)) ?_
  simp(disch:=omega) [h4,VY]
  cases h6:d5 x.1 n <;>simp(disch:=omega) [aG,aL,aR,ag,JJ,b6,hx,h4,h6,VY]
 ·simp(disch:=omega) [h4,aG,aL,aR,ag,JJ,b6,hx,VY]
abbrev iM:Nat:=172
def iJ:AF:=⟨3,5,[],(.seq (.ops [qm 6 0, .i (.nch 7 (.s 6)),qf 8 7 2, .i (.ldh 9 (.s 8) 1 false), .i (.bin 10 .eql (.s 9) (qi 0)),qm 11 10, .g 11 true 13 (.mov 12 (.s 1)), .g 11 true 14 (.not 13 (.s 12)), .i (.pick 14 (.s 11) (.s 13) (qb false))]) (.cond (.s 14) (.ops [qm 15 0,qm 16 2, .i (.nch 17 (.s 15)),qf 18 17 2, .i (.sth (.s 18) (.s 16) 1)]) .skip))⟩
theorem uK:cd iM=some iJ:=by kernel_rfl
theorem aJ (b:Bytes) (r:Rd) (ok:Bool) (c:Nat):VC cd iM (iX [] 215 (bC b r) [(false,[.bool ok]),(false,[.int .i64 (c:Int)])]) (fun rs p=>rs= []∧p= [.pt 215 (bC b (bL r (!ok) c))]):=by
 refine ay uK rfl ?_
 simp(disch:=omega) [iJ,bC,VZ]
 by_cases h:r.er=0
 ·cases ok <;>simp(disch:=omega) [h,bL,bC,VZ]
 ·simp(disch:=omega) [h,bL,bC,VZ]
abbrev jt:Nat:=165
def jo:AF:=⟨1,6,[.tmp 2],(.seq (.ops [.i (.mov 2 (qi 0))]) (.seq (.seq (.ops [qm 6 0, .i (.nch 7 (.s 6)),qf 8 7 2, .i (.ldh 9 (.s 8) 1 false), .i (.bin 10 .neq (.s 9) (qi 0))]) (.cond (.s 10) (.seq (.ops [.i (.mov 2 (qi 0))]) .ret) .skip)) (.seq (.ops [qm 12 0, .i (.nch 13 (.s 12)),qf 14 13 0, .i (.ldh 15 (.s 14) 1 false),qm 16 0, .i (.nch 17 (.s 16)),qf 18 17 1, .i (.ldh 19 (.s 18) 1 false), .i (.call 21 243 false [(.s 15),(.s 19)]),qm 11 20, .i (.ext 21 (.s 11) 0), .i (.ext 22 (.s 11) 1), .i (.ext 23 (.s 11) 2),qm 3 21,qm 4 22,qm 5 23]) (.seq (.ops [qm 24 0,qm 25 0,qm 26 4,qm 27 5, .i (.nch 28 (.s 24)),qf 29 28 1, .i (.sth (.s 29) (.s 26) 1), .i (.nch 30 (.s 25)),qf 31 30 2, .i (.sth (.s 31) (.s 27) 1)]) (.seq (.ops [qm 32 3,qm 2 32]) .ret)))))⟩
theorem uX:cd jt=some jo:=by kernel_rfl
theorem bM (b:Bytes) (r:Rd) (hr:r.wf b) (hb:b.length≤1073741824):VC cd jt (iX [] 215 (bC b r) []) (fun rs p=>rs=it (bc b r).1∧p= [.pt 215 (bC b (bc b r).2)]):=by
 refine ay uX rfl ?_
 simp(disch:=omega) [jo,bC,VZ]
 by_cases h:r.er=0
 ·simp(disch:=omega) [h,VZ]
  refine aj (oX b r.at_ hr.1 hb) rfl rfl ?_
  simp(disch:=omega) [Nj,bc,h,bC,VZ]
 ·simp(disch:=omega) [h,bc,bC,VZ]
abbrev hU:Nat:=167
def hX:AF:=⟨3,5,[.tmp 6],(.seq (.ops [.i (.mov 6 (qi 0))]) (.seq (.ops [qm 8 0,qk 10 165 8,qm 7 9]) (.seq (.ops [qm 10 0,qm 11 7,qm 12 1,qd 13 .lss 11 12,qm 14 2, .i (.call 16 172 false [(.s 10),(.s 13),(.s 14)])]) (.seq (.ops [qm 16 7,qm 6 16]) .ret))))⟩
theorem so:cd hU=some hX:=by kernel_rfl
theorem cL (b:Bytes) (r:Rd) (n:Int) (c:Nat) (hr:r.wf b) (hb:b.length≤1073741824):VC cd hU (iX [] 215 (bC b r) [(false,[.int .i64 n]),(false,[.int .i64 (c:Int)])]) (fun rs p=>rs=it (aS b r n c).1∧p= [.pt 215 (bC b (aS b r n c).2)]):=by
 refine ay so rfl ?_
 simp(disch:=omega) [hX,bC,VZ]
 refine fK (bM b r hr hb) ?_
 generalize hx:bc b r=x
 simp(disch:=omega) [bC,VZ]
 refine fK (aJ b x.2 (decide ((x.1:Int) < n)) c) ?_
 have e:(!decide ((x.1:Int) < n))=decide (n≤(x.1:Int)):=by
  by_cases h:(x.1:Int) < n
  ·simp[h]
  ·simp[h];omega
 simp(disch:=omega) [bC,aS,hx,e,VZ]
abbrev ji:Nat:=244
def jv:AF:=⟨2,6,[.tmp 4],(.seq (.ops [.i (.mov 4 (.c (.val false [.nils])))]) (.seq (.seq (.ops [qm 8 0, .i (.nch 9 (.s 8)),qf 10 9 2, .i (.ldh 11 (.s 10) 1 false), .i (.bin 12 .neq (.s 11) (qi 0))]) (.cond (.s 12) (.seq (.ops [.i (.mov 4 (.c (.val false [.nils])))]) .ret) .skip)) (.seq (.ops [qm 14 0, .i (.nch 15 (.s 14)),qf 16 15 0, .i (.ldh 17 (.s 16) 1 false),qm 18 0, .i (.nch 19 (.s 18)),qf 20 19 1, .i (.ldh 21 (.s 20) 1 false),qm 22 1, .i (.call 24 248 false [(.s 17),(.s 21),(.s 22)]),qm 13 23, .i (.ext 24 (.s 13) 0), .i (.ext 25 (.s 13) 1), .i (.ext 26 (.s 13) 2),qm 5 24,qm 6 25,qm 7 26]) (.seq (.ops [qm 27 0,qm 28 0,qm 29 6,qm 30 7, .i (.nch 31 (.s 27)),qf 32 31 1, .i (.sth (.s 32) (.s 29) 1), .i (.nch 33 (.s 28)),qf 34 33 2, .i (.sth (.s 34) (.s 30) 1)]) (.seq (.ops [qm 35 5,qm 4 35]) .ret)))))⟩
theorem vC:cd ji=some jv:=by kernel_rfl
theorem Dz (b:Bytes) (r:Rd) (n:Nat) (hn:n≤1073741824) (hr:r.wf b) (hb:b.length≤1073741824):VC cd ji (iX [] 215 (bC b r) [(false,[.int .i64 (n:Int)])]) (fun rs p=>rs= [(false,[.o true (some (5,1)) (bytes (bA b r n).1)])]∧p= [.pt 215 (bC b (bA b r n).2)]):=by
 refine VC.lL ?_
 refine ay vC rfl ?_
 simp(disch:=omega) [jv,bC,VZ]
 by_cases h:r.er=0
 ·simp(disch:=omega) [h,VZ]
  refine aj (gY b r.at_ n hr.1 hb (by omega)) rfl rfl ?_
  simp(disch:=omega) [JJ,bA,h,bC,aG,aL,aR,ag,VZ]
 ·simp(disch:=omega) [h,bA,bC,aG,aL,aR,ag,VZ]
abbrev iu:Nat:=166
def iv:AF:=⟨1,3,[.tmp 2],(.seq (.ops [.i (.mov 2 (.c (.val false [.nils])))]) (.seq (.ops [qm 3 0, .i (.call 5 244 false [(.s 3),(qi 32)]),qm 2 4]) .ret))⟩
theorem uG:cd iu=some iv:=by kernel_rfl
theorem cC (b:Bytes) (r:Rd) (hr:r.wf b) (hb:b.length≤1073741824):VC cd iu (iX [] 215 (bC b r) []) (fun rs p=>rs= [(false,[.o true (some (5,1)) (bytes (bA b r 32).1)])]∧p= [.pt 215 (bC b (bA b r 32).2)]):=by
 refine ay uG rfl ?_
 simp(disch:=omega) [iv,bC,VZ]
 refine fK (Dz b r 32 (by omega) hr hb) ?_
 simp(disch:=omega) [bC,VZ]
abbrev eT:Nat:=177
def iI:AF:=⟨2,6,[.tmp 4],(.seq (.ops [.i (.mov 4 (.c (.val false [.nils])))]) (.seq (.seq (.ops [qm 8 0, .i (.nch 9 (.s 8)),qf 10 9 2, .i (.ldh 11 (.s 10) 1 false), .i (.bin 12 .neq (.s 11) (qi 0))]) (.cond (.s 12) (.seq (.ops [.i (.mov 4 (.c (.val false [.nils])))]) .ret) .skip)) (.seq (.ops [qm 14 0, .i (.nch 15 (.s 14)),qf 16 15 0, .i (.ldh 17 (.s 16) 1 false),qm 18 0, .i (.nch 19 (.s 18)),qf 20 19 1, .i (.ldh 21 (.s 20) 1 false),qm 22 1, .i (.call 24 255 false [(.s 17),(.s 21),(.s 22)]),qm 13 23, .i (.ext 24 (.s 13) 0), .i (.ext 25 (.s 13) 1), .i (.ext 26 (.s 13) 2),qm 5 24,qm 6 25,qm 7 26]) (.seq (.ops [qm 27 0,qm 28 0,qm 29 6,qm 30 7, .i (.nch 31 (.s 27)),qf 32 31 1, .i (.sth (.s 32) (.s 29) 1), .i (.nch 33 (.s 28)),qf 34 33 2, .i (.sth (.s 34) (.s 30) 1)]) (.seq (.ops [qm 35 5,qm 4 35]) .ret)))))⟩
theorem uH:cd eT=some iI:=by kernel_rfl
theorem A3 (b:Bytes) (r:Rd) (m:Nat) (hm:m≤1073741824) (hr:r.wf b) (hb:b.length≤1073741824):VC cd eT (iX [] 215 (bC b r) [(false,[.int .i64 (m:Int)])]) (fun rs p=>rs= [(false,[.o true (some (5,1)) (bytes (dA b r m).1)])]∧p= [.pt 215 (bC b (dA b r m).2)]):=by
 refine VC.lL ?_
 refine ay uH rfl ?_
 simp(disch:=omega) [iI,bC,VZ]
 by_cases h:r.er=0
 ·simp(disch:=omega) [h,VZ]
  refine aj (zY b r.at_ m hr.1 hb hm) rfl rfl ?_
  simp(disch:=omega) [JJ,dA,h,bC,aG,aL,aR,ag,VZ]
 ·simp(disch:=omega) [h,dA,bC,aG,aL,aR,ag,VZ]
end Go.Eng.F
namespace Go.Eng.F
theorem FA (l:List Bytes) (x:Bytes):bH l++ [[.sl (bytes x)]]=bH (l++ [x]):=by simp[bH]
theorem yr (b:Bytes) (a:Nat) (n:Int):(b6 b a n).2.wf b∧(b6 b a n).1.length≤2:=by
 refine⟨(Ji b a n).1,?_⟩
 simp only[b6]
 split
 ·simp
 ·split
  ·exact Lr ‹_›
  ·simp
def bu.o (v:bu):List E:= [.p (.int .i64 v.view), .p (.int .i64 v.height), .o true (some (5,1)) (bytes v.block), .p (.int .i64 v.who), .o true (some (5,1)) (bytes v.tag)]
abbrev gU:Nat:=102
def mw:AF:=⟨2,5,[.cell 4 5 true],(.seq (.ops [.i (.lbox 2 (.s 0)), .i (.lal 4 [.int .i64 0, .int .i64 0, .nils, .int .i64 0, .nils])]) (.seq (.ops [qm 5 1,qk 7 165 5,qm 7 1,qk 9 165 7,qm 9 1,qk 11 166 9,qm 11 1,qf 12 2 0,ql 13 2 12 1 false, .i (.call 15 167 false [(.s 11),(.s 13),(qi 5)]),qm 15 1,qk 17 166 15, .i (.bld 17 [.int .i64 0, .int .i64 0, .nils, .int .i64 0, .nils] [(0,1,(.s 6)),(1,1,(.s 8)),(2,1,(.s 10)),(3,1,(.s 14)),(4,1,(.s 16))]),qs 4 4 17 5]) .ret))⟩
theorem zo:cd gU=some mw:=by kernel_rfl
theorem xy (b:Bytes) (l:ah) (r:Rd) (hr:r.wf b) (hb:b.length≤1073741824):VC cd gU (iX [(true,l.c)] 215 (bC b r) []) (fun rs p=>rs= [(true,(gJ b l r).1.o)]∧p= [.pt 215 (bC b (gJ b l r).2)]):=by
 refine ay zo rfl ?_
 simp(disch:=omega) [mw,bC,ah.c,VZ]
 refine fK (bM b r hr hb) ?_
 have w1:=dk hr
 generalize h1:bc b r=s1 at w1⊢
 simp(disch:=omega) [bC,VZ]
 refine fK (bM b s1.2 w1.1 hb) ?_
 have w2:=dk w1.1
 generalize h2:bc b s1.2=s2 at w2⊢
 simp(disch:=omega) [bC,VZ]
 refine fK (cC b s2.2 w2.1 hb) ?_
 have w3:=eI w2.1 32
 generalize h3:bA b s2.2 32=s3 at w3⊢
 simp(disch:=omega) [bC,VZ]
 refine fK (cL b s3.2 l.n 5 w3.1 hb) ?_
 have w4:=eX (n:=l.n) (c:=5) w3.1 (by omega)
 generalize h4:aS b s3.2 l.n 5=s4 at w4⊢
 simp(disch:=omega) [bC,VZ]
 refine fK (cC b s4.2 w4.1 hb) ?_
 have w5:=eI w4.1 32
 generalize h5:bA b s4.2 32=s5 at w5⊢
 simp(disch:=omega) [bC,VZ]
 simp(disch:=omega) [gJ,h1,h2,h3,h4,h5,bu.o,bC,VZ]
abbrev jI:Nat:=106
def tW:AF:=⟨2,6,[.cell 4 5 true],(.seq (.ops [.i (.lbox 2 (.s 0)), .i (.lal 4 [.int .i64 0, .int .i64 0, .nils, .nils, .nils])]) (.seq (.ops [qm 6 1,qk 8 165 6,qm 8 1,qk 10 165 8,qm 10 1,qk 12 166 10, .i (.bld 12 [.int .i64 0, .int .i64 0, .nils, .nils, .nils] [(0,1,(.s 7)),(1,1,(.s 9)),(2,1,(.s 11))]), .i (.lal 5 [.int .i64 0, .int .i64 0, .nils, .nils, .nils]),qs 5 5 12 5]) (.seq (.seq (.ops [qm 13 1, .i (.nch 14 (.s 13)),qf 15 14 2, .i (.ldh 16 (.s 15) 1 false), .i (.bin 17 .neq (.s 16) (qi 0))]) (.cond (.s 17) (.seq (.ops [ql 18 5 5 5 true,qs 4 4 18 5]) .ret) .skip)) (.seq (.ops [qm 20 1,qm 21 1,qm 22 1, .i (.nch 23 (.s 22)),qf 24 23 0, .i (.ldh 25 (.s 24) 1 false),qm 26 1, .i (.nch 27 (.s 26)),qf 28 27 1, .i (.ldh 29 (.s 28) 1 false),qf 30 2 0,ql 31 2 30 1 false, .i (.call 33 170 false [(.s 25),(.s 29),(.s 31)]),qm 19 32, .i (.ext 33 (.s 19) 0), .i (.ext 34 (.s 19) 1), .i (.ext 35 (.s 19) 2),qf 36 5 3,qs 5 36 33 1, .i (.nch 37 (.s 20)),qf 38 37 1, .i (.sth (.s 38) (.s 34) 1), .i (.nch 39 (.s 21)),qf 40 39 2, .i (.sth (.s 40) (.s 35) 1)]) (.seq (.seq (.ops [qf 41 5 3,ql 42 5 41 1 false,qk 44 169 42, .i (.mov 44 (qi 0))]) (.block 0 (.loop [53,52,51,50,49,48,47,46,45] (.seq (.ops [qd 45 .lss 44 43]) (.seq (.cond (.s 45) .skip (.exit 0)) (.seq (.block 1 (.ops [qf 46 5 4,ql 47 5 46 1 false,qm 48 1,qk 50 166 48, .i (.lsl 50 1 1 [.nils] [(0,1,(.s 49))]), .i (.app 51 22 1 24 (.s 47) (.s 50)),qf 52 5 4,qs 5 52 51 1])) (.ops [.i (.bin 53 .add (.s 44) (qi 1)),qm 44 53]))))))) (.seq (.ops [ql 54 5 5 5 true,qs 4 4 54 5]) .ret))))))⟩
theorem Dh:cd jI=some tW:=by kernel_rfl
theorem dW (b:Bytes) (l:ah) (r:Rd) (hl:1≤l.n∧l.n≤10) (hr:r.wf b) (hb:b.length≤1073741824):VC cd jI (iX [(true,l.c)] 215 (bC b r) []) (fun rs p=>rs= [(true,(uI b l r).1.o)]∧p= [.pt 215 (bC b (uI b l r).2)]):=by
 refine VC.lL ?_
 refine ay Dh rfl ?_
 simp(disch:=omega) [tW,bC,ah.c,VZ]
 refine fK (bM b r hr hb) ?_
 have w1:=dk hr
 generalize h1:bc b r=s1 at w1⊢
 simp(disch:=omega) [bC,VZ]
 refine fK (bM b s1.2 w1.1 hb) ?_
 have w2:=dk w1.1
 generalize h2:bc b s1.2=s2 at w2⊢
 simp(disch:=omega) [bC,VZ]
 refine fK (cC b s2.2 w2.1 hb) ?_
 have w3:=eI w2.1 32
 generalize h3:bA b s2.2 32=s3 at w3⊢
 simp(disch:=omega) [bC,VZ]
 by_cases g:s3.2.er=0
 case neg=>simp(disch:=omega) [g,uI,h1,h2,h3,Qc.o,bC,aG,aL,aR,ag,bH,VZ]
 simp(disch:=omega) [g,VZ]
 refine aj (zn b s3.2.at_ l.n hl w3.1.1 hb) rfl rfl ?_
 have w4:=yr b s3.2.at_ l.n
 generalize h4:b6 b s3.2.at_ l.n=s4 at w4⊢
 simp(disch:=omega) [JJ,VZ]
 refine aj (wy s4.1 (by omega)) rfl rfl ?_
 simp(disch:=omega) [VZ]
 refine dr (σ:=Nat×Nat×List Bytes×Rd) (f0:=_) (by simp(disch:=omega) [VZ];rfl) (de.zq (s:=5) (k:=5) (i:=4) rfl rfl) (f1:=_) (es0:=_) (by simp(disch:=omega) [VZ];rfl) (by simp(disch:=omega) [VZ];rfl) (fun p=> [(44, .val false [.int .i64 (p.1:Int)]),(5, .box [.int .i64 s1.1, .int .i64 s2.1, .ow 106496 19, .ow 278528 24, .ow 5 p.2.1])]) (fun p=> [(4101, .pt 5 215 [.sl (bytes b), .int .i64 (p.2.2.2.at_:Int), .int .i64 (p.2.2.2.er:Int)]),(5, .sl p.2.1 true true (some (22,1)) (bH p.2.2.1))])
  (fun p g=>(g+p.1=(aQ s4.1).length∧p.2.2.1.length=p.1)∧p.2.2.2.wf b∧eU (fun r=>bA b r 32) (aQ s4.1).length s4.2=(p.2.2.1++(eU (fun r=>bA b r 32) g p.2.2.2).1,(eU (fun r=>bA b r 32) g p.2.2.2).2)) (0,_,[],s4.2) (aQ s4.1).length (by simp(disch:=omega) [VZ];rfl) (by simp(disch:=omega) [bH,bC,VZ]) ⟨⟨by simp,rfl⟩,w4.1,by simp⟩ ?_
 rintro⟨i,v,x,q⟩ nx g0 ⟨⟨hg,h5⟩,h6,h7⟩ P hP
 simp only at hg h5 h6 h7
 have hl:(bH x).length=i:=by rw[aC];exact h5
 simp(disch:=omega) [VZ]
 have hb4:=dJ s4.1
 refine ab (fun h8=> ?_) (fun h8=> ?_)
 ·simp(disch:=omega) [bC,VZ]
  refine fK (cC b q h6 hb) ?_
  have w5:=eI h6 32
  obtain⟨g1,rfl⟩:∃g1,g0=g1+1:=⟨g0 - 1,by omega⟩
  simp only[eU]at h7
  generalize h9:bA b q 32=s5 at w5 h7⊢
  simp(disch:=omega) [bC,hl,FA,VZ]
  refine hP (i+1,_,x++ [s5.1],s5.2) g1 _ _ (by omega) ⟨⟨by simp only;omega,by simp[h5]⟩,w5.1,by rw[h7];simp⟩ (by simp(disch:=omega) [VZ];rfl) (by simp(disch:=omega) [bC,VZ])
 ·obtain rfl:g0=0:=by omega
  simp only[eU,List.append_nil]at h7
  simp(disch:=omega) [uI,h1,h2,h3,h4,g,h7,Qc.o,bC,aG,aL,aR,VZ]
end Go.Eng.F
namespace Go.Eng.F
abbrev lq:Nat:=241
def kZ:AF:=⟨1,4,[.tmp 2],(.seq (.ops [.i (.mov 2 (qi 0))]) (.seq (.ops [qm 3 0,qm 4 0, .i (.call 6 97 false [(.s 4),(qi 100)]),qm 6 0, .i (.call 8 97 false [(.s 6),(qi 100000)]), .i (.bsl 8 3 1 11 [.int .i64 0] [(0,1,(qi 0)),(1,1,(qi 1)),(2,1,(qi 127)),(3,1,(qi 128)),(4,1,(qi 300)),(5,1,(qi 16383)),(6,1,(qi 16384)),(7,1,(qi 1152921504606846975)),(8,1,(qi 1152921504606846974)),(9,1,(.s 5)),(10,1,(.s 7))]), .i (.call 10 155 false [(.s 3),(.s 8)]),qm 2 9]) .ret))⟩
theorem xF:cd lq=some kZ:=by kernel_rfl
theorem ie (b:Bytes) (i:Nat) (h:Int) (hi:i≤b.length) (hb:b.length≤1073741824):VC cd lq (iX [] 133 (cur b i h) []) (fun r p=>∃x:Int×Nat×Int,(isNum x.1=true∧x.2.1≤b.length)∧r=it x.1∧p= [.pt 133 (cur b x.2.1 x.2.2)]):=by
 refine ay xF rfl ?_
 simp(disch:=omega) [kZ,cur,VZ]
 refine cN (ao b i h 100 (by omega) hi hb) ?_
 rintro⟨k1,i1,h1⟩ ⟨g1,j1⟩
 simp only at g1 j1
 simp(disch:=omega) [cur,VZ]
 refine cN (ao b i1 h1 100000 (by omega) j1 hb) ?_
 rintro⟨k2,i2,h2⟩ ⟨g2,j2⟩
 simp only at g2 j2
 simp(disch:=omega) [cur,VZ]
 refine cN (iT b i2 h2 [0,1,127,128,300,16383,16384,1152921504606846975,1152921504606846974,(k1:Int),(k2:Int)] (by simp) (by simp) j2 hb) ?_
 rintro⟨k3,i3,h3⟩ ⟨g3,j3⟩
 simp only at g3 j3
 simp(disch:=omega) [cur,VZ]
 simp only[List.mem_cons,List.not_mem_nil,or_false]at g3
 exact⟨k3,i3,⟨by simp only[isNum,cf,decide_eq_true_eq];omega,j3⟩,rfl,rfl⟩
theorem cH {n:Int} (h:isNum n=true):nQ n:=by
 have:=cX h
 exact⟨by omega,by omega⟩
abbrev rN:Nat:=161
def pv:AF:=⟨2,5,[.cell 4 5 true],(.seq (.ops [.i (.lbox 3 (.s 1)), .i (.lal 4 [.int .i64 0, .int .i64 0, .nils, .int .i64 0, .nils])]) (.seq (.ops [qm 5 0,qk 7 241 5,qm 7 0,qk 9 241 7,qm 9 0,qk 11 242 9,qm 11 0,qf 12 3 0,ql 13 3 12 1 false, .i (.call 15 97 false [(.s 11),(.s 13)]),qm 15 0,qk 17 242 15, .i (.bld 17 [.int .i64 0, .int .i64 0, .nils, .int .i64 0, .nils] [(0,1,(.s 6)),(1,1,(.s 8)),(2,1,(.s 10)),(3,1,(.s 14)),(4,1,(.s 16))]),qs 4 4 17 5]) .ret))⟩
theorem BS:cd rN=some pv:=by kernel_rfl
theorem um (b:Bytes) (i:Nat) (h:Int) (l:ah) (hl:1≤l.n∧l.n≤10) (hi:i≤b.length) (hb:b.length≤1073741824):VC cd rN (iX [] 133 (cur b i h) [(true,l.c)]) (fun r p=>∃x:bu×Nat×Int,((isNum x.1.view=true∧isNum x.1.height=true∧x.1.block.length=32∧cf x.1.who 0 (l.n - 1)=true∧x.1.tag.length=32)∧x.2.1≤b.length)∧r= [(true,x.1.o)]∧p= [.pt 133 (cur b x.2.1 x.2.2)]):=by
 refine ay BS rfl ?_
 simp(disch:=omega) [pv,cur,ah.c,VZ]
 refine cN (ie b i h hi hb) ?_
 rintro⟨k1,i1,h1⟩ ⟨g1,j1⟩
 simp only at g1 j1
 simp(disch:=omega) [cur,VZ]
 refine cN (ie b i1 h1 j1 hb) ?_
 rintro⟨k2,i2,h2⟩ ⟨g2,j2⟩
 simp only at g2 j2
 simp(disch:=omega) [cur,VZ]
 refine cN (cY b i2 h2 j2 hb) ?_
 rintro⟨x3,i3,h3⟩ ⟨g3,j3⟩
 simp only at g3 j3
 obtain⟨m,hm⟩:∃m:Nat,l.n=(m:Int):=⟨l.n.toNat,by omega⟩
 simp(disch:=omega) [cur,hm,VZ]
 refine cN (ao b i3 h3 m (by omega) j3 hb) ?_
 rintro⟨k4,i4,h4⟩ ⟨g4,j4⟩
 simp only at g4 j4
 simp(disch:=omega) [cur,VZ]
 refine cN (cY b i4 h4 j4 hb) ?_
 rintro⟨x5,i5,h5⟩ ⟨g5,j5⟩
 simp only at g5 j5
 simp(disch:=omega) [cur,VZ]
 refine⟨⟨k1,k2,x3,k4,x5⟩,i5,⟨⟨g1,g2,g3,by simp only[cf,decide_eq_true_eq];omega,g5⟩,j5⟩,rfl,rfl⟩
abbrev pX:Nat:=317
def qO:AF:=⟨1,4,[.tmp 2],(.seq (.ops [.i (.mov 2 (.c (.val false [.nils])))]) (.seq (.seq (.ops [qm 3 0,qk 5 279 3, .i (.not 5 (.s 4))]) (.cond (.s 5) (.seq (.ops [.i (.mov 2 (.c (.val false [.nils])))]) .ret) .skip)) (.seq (.ops [qm 6 0,qk 8 341 6, .i (.mks 8 5 1 1 [.int .u8 0] (.s 7)),qm 2 8]) .ret)))⟩
theorem Al:cd pX=some qO:=by kernel_rfl
theorem za (n:Int) (hn:1≤n∧n≤10):VC cd pX (aE [(false,[.int .i64 n])]) (fun rs _=>rs= [(false,[.o true (some (5,1)) (bytes (List.replicate (wv n).toNat 0))])]):=by
 have h1:cf n 1 10=true:=by simp only[cf,decide_eq_true_eq];omega
 have h2:=wL hn
 have h3:0≤wv n:=by unfold wv;split <;>omega
 refine aa Al rfl ?_
 simp(disch:=omega) [qO,VY]
 refine av (eR n) ?_
 simp(disch:=omega) [h1,VY]
 refine av (kF n (by omega) (by omega)) ?_
 have e1:List.replicate (wv n).toNat [D.int .u8 0]=bytes (List.replicate (wv n).toNat 0):=A4 _
 simp(disch:=omega) [h3,e1,VY]
theorem Ms (x:Bytes) (j:Nat) (y z:Int):(bytes x).set j [.int .u8 (aA .or .u8 y z)]=bytes (x.set j (b8 ((BitVec.ofInt IntKind.u8.bits y|||BitVec.ofInt IntKind.u8.bits z).toNat:Int))):=iN x j _
abbrev ov:Nat:=265
def rl:AF:=⟨2,5,[.tmp 4],(.seq (.ops [.i (.mov 4 (.c (.val false [.nils])))]) (.seq (.ops [qm 7 1,qk 9 317 7,qm 5 8]) (.seq (.seq (.ops [.i (.mov 6 (qi 0))]) (.block 0 (.loop [29,28,27,26,25,24,23,22,21,20,19,18,17,16,15,14,13,12,11,10,9] (.seq (.seq (.ops [qm 9 6,qm 10 1,qd 11 .lss 9 10]) (.cond (.s 11) .skip (.exit 0))) (.seq (.block 1 (.seq (.ops [qm 14 0, .i (.call 16 135 false [(.s 14),(qi 3)]), .i (.not 16 (.s 15))]) (.cond (.s 16) (.ops [qm 17 5,qm 18 6, .i (.bin 19 .quo (.s 18) (qi 8)),qm 20 5,qm 21 6, .i (.bin 22 .quo (.s 21) (qi 8)), .i (.iad 23 (.s 20) (.s 22) 1), .i (.ldh 24 (.s 23) 1 false),qm 25 6, .i (.bin 26 .rem (.s 25) (qi 8)), .i (.bin 27 .shl (.c (.val false [.int .u8 1])) (.s 26)),qd 28 .or 24 27, .i (.iad 29 (.s 17) (.s 19) 1), .i (.sth (.s 29) (.s 28) 1)]) .skip))) (.ops [qm 12 6, .i (.bin 13 .add (.s 12) (qi 1)),qm 6 13])))))) (.seq (.ops [qm 30 5,qm 4 30]) .ret))))⟩
theorem AN:cd ov=some rl:=by kernel_rfl
theorem IB (b:Bytes) (i:Nat) (h:Int) (n:Int) (hn:1≤n∧n≤10) (hi:i≤b.length) (hb:b.length≤1073741824):VC cd ov (iX [] 133 (cur b i h) [(false,[.int .i64 n])]) (fun r p=>∃x:Bytes×Nat×Int,(x.1.length≤2∧x.2.1≤b.length)∧r= [(false,[.o true (some (5,1)) (bytes x.1)])]∧p= [.pt 133 (cur b x.2.1 x.2.2)]):=by
 have h2:=wL hn
 have h3:0≤wv n:=by unfold wv;split <;>omega
 refine ay AN rfl ?_
 simp(disch:=omega) [rl,cur,VZ]
 refine av (za n hn) ?_
 simp(disch:=omega) [cur,VZ]
 refine bx (σ:=Nat×Nat×Nat×Int×Bytes) (f1:=_) (es0:=_) (by simp(disch:=omega) [VZ];rfl) (by simp(disch:=omega) [VZ];rfl) (fun p=> [(6, .val false [.int .i64 (p.1:Int)]),(5, .val false [.ow 81920 p.2.1])]) (fun p=> [(4096, .pt 0 133 [.sl (bytes b), .int .i64 (p.2.2.1:Int), .int .i64 p.2.2.2.1]),(81920, .sl p.2.1 true true (some (5,1)) (bytes p.2.2.2.2))])
  (fun p g=>(g:Int)+p.1=n∧p.2.2.1≤b.length∧(p.2.2.2.2.length:Int)=wv n) (0,_,i,h,List.replicate (wv n).toNat 0) n.toNat (by simp(disch:=omega) [VZ];rfl) (by simp(disch:=omega) [VZ]) ⟨by simp only;omega,hi,by simp;omega⟩ ?_
 rintro⟨m,v,i2,h2',x⟩ nx g ⟨hg,h5,h6⟩ P hP
 simp only at hg h5 h6
 simp(disch:=omega) [VZ]
 refine ab (fun h8=> ?_) (fun h8=> ?_)
 ·simp(disch:=omega) [VZ]
  refine cN (gh b i2 h2' 3 (by omega) h5 hb) ?_
  rintro⟨y,i3,h3'⟩ h9
  simp only at h9
  have hm:m / 8 < x.length:=by unfold wv at h6;split at h6 <;>omega
  cases y with
  |true=>
   simp(disch:=omega) [cur,VZ]
   exact hP (m+1,v,i3,h3',x) (g - 1) _ _ (by omega) ⟨by simp only;omega,h9,h6⟩ (by simp(disch:=omega) [VZ] <;>rfl) (by simp(disch:=omega) [VZ])
  |false=>
   obtain⟨q1,q2,q3,q4⟩:=PQ m
   simp(disch:=omega) [cur,Jt,MT,q1,q2,q3,q4,bz hm,Ms,VZ]
   exact hP (m+1,v,i3,h3',x.set (m / 8) (b8 (((x[m / 8].toNat % 2 ^ IntKind.u8.bits|||(IntKind.u8.wrap (2 ^ min (m % 8) IntKind.u8.bits) % 2 ^ IntKind.u8.bits).toNat:Nat):Nat):Int))) (g - 1) _ _ (by omega) ⟨by simp only;omega,h9,by simpa using h6⟩ (by simp(disch:=omega) [VZ] <;>rfl) (by simp(disch:=omega) [VZ])
 ·simp(disch:=omega) [cur,VZ]
  exact⟨x,i2,⟨by omega,h5⟩,rfl,rfl⟩
abbrev oy:Nat:=185
def qD:AF:=⟨2,6,[.cell 4 5 true],(.seq (.ops [.i (.lbox 3 (.s 1)), .i (.lal 4 [.int .i64 0, .int .i64 0, .nils, .nils, .nils])]) (.seq (.ops [qm 7 0,qk 9 241 7,qm 9 0,qk 11 241 9,qm 11 0,qk 13 242 11,qm 13 0,qf 14 3 0,ql 15 3 14 1 false, .i (.call 17 265 false [(.s 13),(.s 15)]), .i (.bld 17 [.int .i64 0, .int .i64 0, .nils, .nils, .nils] [(0,1,(.s 8)),(1,1,(.s 10)),(2,1,(.s 12)),(3,1,(.s 16))]), .i (.lal 5 [.int .i64 0, .int .i64 0, .nils, .nils, .nils]),qs 5 5 17 5]) (.seq (.seq (.ops [qf 18 5 3,ql 19 5 18 1 false,qk 21 266 19,qm 6 20]) (.block 0 (.loop [31,30,29,28,27,26,25,24,23,22,21] (.seq (.seq (.ops [qm 21 6, .i (.bin 22 .gtr (.s 21) (qi 0))]) (.cond (.s 22) .skip (.exit 0))) (.seq (.block 1 (.ops [qf 25 5 4,ql 26 5 25 1 false,qm 27 0,qk 29 242 27, .i (.lsl 29 1 1 [.nils] [(0,1,(.s 28))]), .i (.app 30 22 1 24 (.s 26) (.s 29)),qf 31 5 4,qs 5 31 30 1])) (.ops [qm 23 6, .i (.bin 24 .sub (.s 23) (qi 1)),qm 6 24])))))) (.seq (.ops [ql 32 5 5 5 true,qs 4 4 32 5]) .ret))))⟩
theorem A8:cd oy=some qD:=by kernel_rfl
theorem uL (b:Bytes) (i:Nat) (h:Int) (l:ah) (hl:1≤l.n∧l.n≤10) (hi:i≤b.length) (hb:b.length≤1073741824):VC cd oy (iX [] 133 (cur b i h) [(true,l.c)]) (fun r p=>∃x:Qc×Nat×Int,(Kd x.1∧x.2.1≤b.length)∧r= [(true,x.1.o)]∧p= [.pt 133 (cur b x.2.1 x.2.2)]):=by
 refine ay A8 rfl ?_
 simp(disch:=omega) [qD,cur,ah.c,VZ]
 refine cN (ie b i h hi hb) ?_
 rintro⟨k1,i1,h1⟩ ⟨g1,j1⟩
 simp only at g1 j1
 simp(disch:=omega) [cur,VZ]
 refine cN (ie b i1 h1 j1 hb) ?_
 rintro⟨k2,i2,h2⟩ ⟨g2,j2⟩
 simp only at g2 j2
 simp(disch:=omega) [cur,VZ]
 refine cN (cY b i2 h2 j2 hb) ?_
 rintro⟨x3,i3,h3⟩ ⟨g3,j3⟩
 simp only at g3 j3
 simp(disch:=omega) [cur,VZ]
 refine cN (IB b i3 h3 l.n hl j3 hb) ?_
 rintro⟨x4,i4,h4⟩ ⟨g4,j4⟩
 simp only at g4 j4
 simp(disch:=omega) [cur,VZ]
 refine av (jA x4 (by omega)) ?_
 simp(disch:=omega) [cur,VZ]
 refine dr (σ:=Nat×Nat×Nat×Int×List Bytes) (f0:=_) (by simp(disch:=omega) [VZ];rfl) (de.zq (s:=5) (k:=5) (i:=4) rfl rfl) (f1:=_) (es0:=_) (by simp(disch:=omega) [VZ];rfl) (by simp(disch:=omega) [VZ];rfl) (fun p=> [(6, .val false [.int .i64 (p.1:Int)]),(5, .box [.int .i64 k1, .int .i64 k2, .ow 114688 19, .ow 147456 24, .ow 5 p.2.1])]) (fun p=> [(4096, .pt 0 133 [.sl (bytes b), .int .i64 (p.2.2.1:Int), .int .i64 p.2.2.2.1]),(5, .sl p.2.1 true true (some (22,1)) (bH p.2.2.2.2))])
  (fun p g=>g=p.1∧p.2.2.1≤b.length∧p.2.2.2.2.length+p.1=(aQ x4).length∧∀t∈p.2.2.2.2,t.length=32) ((aQ x4).length,_,i4,h4,[]) (aQ x4).length (by simp(disch:=omega) [VZ];rfl) (by simp(disch:=omega) [bH,VZ]) ⟨rfl,j4,by simp,by simp⟩ ?_
 rintro⟨n,v,i5,h5,x⟩ nx g ⟨hg,a5,a6,a7⟩ P hP
 simp only at hg a5 a6 a7
 have hlb:=dJ x4
 simp(disch:=omega) [VZ]
 refine ab (fun h8=> ?_) (fun h8=> ?_)
 ·simp(disch:=omega) [VZ]
  refine cN (cY b i5 h5 a5 hb) ?_
  rintro⟨y,i6,h6⟩ ⟨g6,j6⟩
  simp only at g6 j6
  have e1:IntKind.i64.wrap ((n:Int) - 1)=((n - 1:Nat):Int):=by rw[yu (by omega) (by omega)];omega
  have hl:(bH x).length=x.length:=aC x
  simp(disch:=omega) [cur,hl,e1,eE,VZ]
  refine hP (n - 1,_,i6,h6,x++ [y]) (g - 1) _ _ (by omega) ⟨by simp only;omega,j6,by simp;omega,fun z hz=> ?_⟩ (by simp(disch:=omega) [VZ];rfl) (by simp(disch:=omega) [VZ])
  rcases List.mem_append.1 hz with hz|hz
  ·exact a7 z hz
  ·simp only[List.mem_singleton]at hz;subst hz;exact g6
 ·simp(disch:=omega) [cur,VZ]
  exact⟨⟨k1,k2,x3,x4,x⟩,i5,⟨⟨g1,g2,g3,g4,by simp only;omega,a7⟩,a5⟩,rfl,rfl⟩
end Go.Eng.F
namespace Go.Eng.F
def Ov (n:Int):Prop:=0≤n∧n≤1152921504606846975
def Qc.rd (q:Qc):Prop:=(Ov q.view∧Ov q.height)∧q.block.length≤32∧q.bits.length≤2∧q.tags.length≤16∧∀t∈q.tags,t.length≤32
theorem pA {n:Nat} (h:n≤1152921504606846975):Ov (n:Int):=⟨by omega,by omega⟩
theorem Bv {b:Bytes} {l:ah} {r:Rd} (h:r.wf b):(uI b l r).2.wf b∧(uI b l r).1.rd:=by
 have w1:=dk h
 have w2:=dk w1.1
 have w3:=eI w2.1 32
 simp only[uI]
 split
 ·have w4:=yr b (bA b (bc b (bc b r).2).2 32).2.at_ l.n
  have w5:=fun(r:Rd) (hr:r.wf b)=>eI hr 32
  have w6:=Hj (p:=fun t:Bytes=>t.length≤32) (b:=b) (f:=fun r=>bA b r 32) (fun(r:Rd) hr=>⟨(w5 r hr).1,(w5 r hr).2.1⟩)
  refine⟨Jq (fun r hr=>(w5 r hr).1) _ _ w4.1,⟨pA w1.2,pA w2.2⟩,w3.2.1,w4.2,?_,w6 _ _ w4.1⟩
  simp only[wA]
  have:=dJ (b6 b (bA b (bc b (bc b r).2).2 32).2.at_ l.n).1
  omega
 ·exact⟨w3.1,⟨pA w1.2,pA w2.2⟩,w3.2.1,by simp,by simp,by simp⟩
def Head.rd (h:Head):Prop:=(Ov h.view∧Ov h.height∧Ov h.proposer)∧h.parent.length≤32∧h.root.length≤32∧h.qc.rd
theorem Ai {b:Bytes} {l:ah} {r:Rd} (h:r.wf b):(cV b l r).2.wf b∧(cV b l r).1.rd:=by
 simp only[cV]
 have w1:=dk h
 generalize bc b r=s1 at w1⊢
 have w2:=dk w1.1
 generalize bc b s1.2=s2 at w2⊢
 have w3:=eD (bad:=decide (s2.1=0)) (c:=5) w2.1 (by omega)
 generalize bL s2.2 (decide (s2.1=0)) 5=s3 at w3⊢
 have w4:=eX (n:=l.n) (c:=5) w3 (by omega)
 generalize aS b s3 l.n 5=s4 at w4⊢
 have w5:=eI w4.1 32
 generalize bA b s4.2 32=s5 at w5⊢
 have w6:=eI w5.1 32
 generalize bA b s5.2 32=s6 at w6⊢
 have w7:=Bv (l:=l) w6.1
 generalize uI b l s6.2=s7 at w7⊢
 exact⟨eD w7.1 (by omega),⟨pA w1.2,pA w2.2,pA w4.2⟩,w5.2.1,w6.2.1,w7.2⟩
theorem HH (h:Head) (h1:0≤h.height) (h2:nQ h.height):VC cd hG (aE [(true,h.c)]) (fun rs _=>rs=bl (fits h)):=by
 simp only[nQ]at h2
 refine aa sk rfl ?_
 simp(disch:=omega) [hZ,Head.c,VY]
 refine ab (fun g1=> ?_) (fun g1=> ?_) <;>simp(disch:=omega) [g1,fits,VY]
 refine ab (fun g2=> ?_) (fun g2=> ?_) <;>simp(disch:=omega) [g1,g2,VY]
 refine aj (aN _ _) rfl rfl ?_
 simp(disch:=omega) [g1,g2,VY]
abbrev g9:Nat:=111
def mT:AF:=⟨2,6,[.cell 4 10 true],(.seq (.ops [.i (.lbox 2 (.s 0)), .i (.lal 4 qz)]) (.seq (.ops [qm 6 1,qk 8 165 6,qm 8 1,qk 10 165 8, .i (.bld 10 qz [(0,1,(.s 7)),(1,1,(.s 9))]), .i (.lal 5 qz),qs 5 5 10 10]) (.seq (.ops [qm 11 1,qf 12 5 1,ql 13 5 12 1 false, .i (.bin 14 .neq (.s 13) (qi 0)), .i (.call 16 172 false [(.s 11),(.s 14),(qi 5)])]) (.seq (.ops [qm 16 1,qf 17 2 0,ql 18 2 17 1 false, .i (.call 20 167 false [(.s 16),(.s 18),(qi 5)]),qf 20 5 2,qs 5 20 19 1]) (.seq (.ops [qm 21 1,qk 23 166 21,qm 23 1,qk 25 166 23,qf 25 5 3,qs 5 25 22 1,qf 26 5 4,qs 5 26 24 1]) (.seq (.ops [ql 27 2 2 5 true,qm 28 1, .i (.call 30 106 false [(.s 27),(.s 28)]),qf 30 5 5,qs 5 30 29 5]) (.seq (.ops [qm 31 1,ql 32 5 5 10 true,qk 34 171 32, .i (.call 35 172 false [(.s 31),(.s 33),(qi 6)])]) (.seq (.ops [ql 35 5 5 10 true,qs 4 4 35 10]) .ret))))))))⟩
theorem y8:cd g9=some mT:=by kernel_rfl
theorem gd (b:Bytes) (l:ah) (r:Rd) (hl:1≤l.n∧l.n≤10) (hr:r.wf b) (hb:b.length≤1073741824):VC cd g9 (iX [(true,l.c)] 215 (bC b r) []) (fun rs p=>rs= [(true,(cV b l r).1.o)]∧p= [.pt 215 (bC b (cV b l r).2)]):=by
 refine ay y8 rfl ?_
 simp(disch:=omega) [mT,bC,ah.c,VZ]
 refine fK (bM b r hr hb) ?_
 have w1:=dk hr
 generalize h1:bc b r=s1 at w1⊢
 simp(disch:=omega) [bC,VZ]
 refine fK (bM b s1.2 w1.1 hb) ?_
 have w2:=dk w1.1
 generalize h2:bc b s1.2=s2 at w2⊢
 simp(disch:=omega) [bC,VZ]
 refine fK (aJ b s2.2 (!decide (s2.1=0)) 5) ?_
 simp only[Bool.not_not]
 have w3:=eD (bad:=decide (s2.1=0)) (c:=5) w2.1 (by omega)
 generalize h3:bL s2.2 (decide (s2.1=0)) 5=s3 at w3⊢
 simp(disch:=omega) [bC,VZ]
 refine fK (cL b s3 l.n 5 w3 hb) ?_
 have w4:=eX (n:=l.n) (c:=5) w3 (by omega)
 generalize h4:aS b s3 l.n 5=s4 at w4⊢
 simp(disch:=omega) [bC,VZ]
 refine fK (cC b s4.2 w4.1 hb) ?_
 have w5:=eI w4.1 32
 generalize h5:bA b s4.2 32=s5 at w5⊢
 simp(disch:=omega) [bC,VZ]
 refine fK (cC b s5.2 w5.1 hb) ?_
 have w6:=eI w5.1 32
 generalize h6:bA b s5.2 32=s6 at w6⊢
 simp(disch:=omega) [bC,VZ]
 refine fK (dW b l s6.2 hl w6.1 hb) ?_ (n1:=by simp(disch:=omega) [Qc.o,VZ]) (n3:=by simp(disch:=omega) [Qc.o,VZ])
 have w7:=Bv (l:=l) w6.1
 generalize h7:uI b l s6.2=s7 at w7⊢
 simp(disch:=omega) [bC,ah.c,Qc.o,VZ]
 have w2':=pA w2.2
 simp only[Ov]at w2'
 refine av (HH ⟨s1.1,s2.1,s4.1,s5.1,s6.1,s7.1⟩ w2'.1 ⟨by simp only;omega,by simp only;omega⟩) ?_ (ha:=by first|rfl|(simp[Head.c,VY] <;>repeat' constructor))
 simp(disch:=omega) [bC,VZ]
 refine fK (aJ b s7.2 (fits ⟨s1.1,s2.1,s4.1,s5.1,s6.1,s7.1⟩) 6) ?_
 have w8:=eD (bad:=(!fits ⟨s1.1,s2.1,s4.1,s5.1,s6.1,s7.1⟩)) (c:=6) w7.1 (by omega)
 generalize h8:bL s7.2 ((!fits ⟨s1.1,s2.1,s4.1,s5.1,s6.1,s7.1⟩)) 6=s8 at w8⊢
 simp(disch:=omega) [bC,VZ]
 simp(disch:=omega) [cV,h1,h2,h3,h4,h5,h6,h7,h8,Head.o,bC,VZ]
end Go.Eng.F
namespace Go.Eng.F
def ah.rd (l:ah):Prop:=(1≤l.n∧l.n≤10)∧(0≤l.tx∧l.tx≤40)∧(0≤l.txs∧l.txs≤8)∧3≤l.heads∧l.heads≤5
theorem fk {l:ah} (h:l.ok=true):l.rd:=by
 simp only[ah.ok,cf,Bool.and_eq_true,decide_eq_true_eq]at h
 exact⟨h.1.1.1.1,h.1.1.1.2,h.1.1.2,h.2⟩
theorem uw {α:Type} {f:Rd→α×Rd}:∀(k:Nat) (r:Rd),(cn f k r).2.er=0→(cn f k r).1.length=k
 |0,r,_=>rfl
 |k+1,r,h=>by
  rw[cn]at h⊢
  split
  ·rename_i g
   rw[if_pos g]at h
   simp only[List.length_cons,uw k _ h]
  ·rename_i g
   rw[if_neg g]at h
   exact absurd h g
theorem iP {r:Rd} {bad:Bool} {c:Nat} (h:(bL r bad c).er=0) (hc:c≠0):bad=false:=by
 unfold bL at h
 split at h
 ·exact absurd h hc
 ·rename_i g
  cases bad
  ·rfl
  ·exact absurd ⟨h,rfl⟩ g
theorem iS {r:Rd} {bad:Bool} {c:Nat} (h:r.er≠0):bL r bad c=r:=by
 unfold bL
 rw[if_neg (fun g=>h g.1)]
theorem sc {α:Type} {f:Rd→α×Rd} {k:Nat} {r:Rd} (h:r.er≠0):cn f k r=([],r):=by
 cases k
 ·rfl
 ·rw[cn,if_neg h]
theorem ly {α:Type} {f:Rd→α×Rd} {k:Nat} {r:Rd} (h:r.er=0):cn f (k+1) r=((f r).1::(cn f k (f r).2).1,(cn f k (f r).2).2):=by
 rw[cn,if_pos h]
theorem mW (b:Bytes) (r:Rd) (m:Int) (h0:0≤m∧m≤1073741824) (hr:r.wf b) (hb:b.length≤1073741824):VC cd eT (iX [] 215 (bC b r) [(false,[.int .i64 m])]) (fun rs p=>rs= [(false,[.o true (some (5,1)) (bytes (dA b r m.toNat).1)])]∧p= [.pt 215 (bC b (dA b r m.toNat).2)]):=by
 obtain⟨k,rfl⟩:=Int.eq_ofNat_of_zero_le h0.1
 exact A3 b r k (by omega) hr hb
abbrev gj:Nat:=116
def kE:AF:=⟨2,6,[.cell 4 11 true],(.seq (.ops [.i (.lbox 2 (.s 0)), .i (.lal 4 [.int .i64 0, .int .i64 0, .int .i64 0, .nils, .nils, .int .i64 0, .int .i64 0, .nils, .nils, .nils, .nils])]) (.seq (.ops [ql 8 2 2 5 true,qm 9 1, .i (.call 11 111 false [(.s 8),(.s 9)]), .i (.bld 11 [.int .i64 0, .int .i64 0, .int .i64 0, .nils, .nils, .int .i64 0, .int .i64 0, .nils, .nils, .nils, .nils] [(0,10,(.s 10))]), .i (.lal 5 [.int .i64 0, .int .i64 0, .int .i64 0, .nils, .nils, .int .i64 0, .int .i64 0, .nils, .nils, .nils, .nils]),qs 5 5 11 11]) (.seq (.ops [qm 12 1,qf 13 2 2,ql 14 2 13 1 false, .i (.bin 15 .add (.s 14) (qi 1)), .i (.call 17 167 false [(.s 12),(.s 15),(qi 3)]),qm 6 16]) (.seq (.seq (.ops [.i (.mov 7 (qi 0))]) (.block 0 (.loop [37,36,35,34,33,32,31,30,29,28,27,26,25,24,23,22,21,20,19,18,17] (.seq (.seq (.ops [qm 17 7,qm 18 6,qd 19 .lss 17 18,qm 20 19, .g 20 true 22 (.mov 21 (.s 1)), .g 20 true 23 (.nch 22 (.s 21)), .g 20 true 24 (.fad 23 (.s 22) 2), .g 20 true 25 (.ldh 24 (.s 23) 1 false), .g 20 true 26 (.bin 25 .eql (.s 24) (qi 0)), .i (.pick 26 (.s 20) (.s 25) (qb false))]) (.cond (.s 26) .skip (.exit 0))) (.seq (.block 1 (.ops [qf 29 5 10,ql 30 5 29 1 false,qm 31 1,qf 32 2 1,ql 33 2 32 1 false, .i (.call 35 177 false [(.s 31),(.s 33)]), .i (.lsl 35 1 1 [.nils] [(0,1,(.s 34))]), .i (.app 36 22 1 24 (.s 30) (.s 35)),qf 37 5 10,qs 5 37 36 1])) (.ops [qm 27 7, .i (.bin 28 .add (.s 27) (qi 1)),qm 7 28])))))) (.seq (.ops [qm 38 1,qm 39 1, .i (.nch 40 (.s 39)),qf 41 40 2, .i (.ldh 42 (.s 41) 1 false), .i (.bin 43 .neq (.s 42) (qi 0)),qm 44 43, .g 44 false 46 (.fad 45 (.s 5) 0), .g 44 false 47 (.fad 46 (.s 45) 4), .g 44 false 48 (.ldl 47 5 (.s 46) 1 false), .g 44 false 49 (.fad 48 (.s 5) 10), .g 44 false 50 (.ldl 49 5 (.s 48) 1 false), .g 44 false 51 (.call 51 176 false [(.s 49)]), .g 44 false 52 (.call 52 21 false [(.s 47),(.s 50)]), .i (.pick 52 (.s 44) (qb true) (.s 51)), .i (.call 54 172 false [(.s 38),(.s 52),(qi 7)])]) (.seq (.ops [ql 54 5 5 11 true,qs 4 4 54 11]) .ret))))))⟩
theorem yn:cd gj=some kE:=by kernel_rfl
theorem wh (b:Bytes) (l:ah) (r:Rd) (hL:l.rd) (hr:r.wf b) (hb:b.length≤1073741824):VC cd gj (iX [(true,l.c)] 215 (bC b r) []) (fun rs p=>rs= [(true,(dI b l r).1.o)]∧p= [.pt 215 (bC b (dI b l r).2)]):=by
 refine VC.lL ?_
 obtain⟨hl,hx,ht,hh⟩:=hL
 refine ay yn rfl ?_
 simp(disch:=omega) [kE,bC,ah.c,VZ]
 refine fK (gd b l r hl hr hb) ?_ (n1:=by simp(disch:=omega) [Head.o,VZ]) (n3:=by simp(disch:=omega) [Head.o,VZ])
 have w1:=Ai (l:=l) hr
 generalize h1:cV b l r=s1 at w1⊢
 simp(disch:=omega) [bC,ah.c,Head.o,VZ]
 refine fK (cL b s1.2 (l.txs+1) 3 w1.1 hb) ?_
 have w2:=eX (n:=(l.txs+1)) (c:=3) w1.1 (by omega)
 generalize h2:aS b s1.2 (l.txs+1) 3=s2 at w2⊢
 simp(disch:=omega) [bC,VZ]
 have hn:s2.2.er=0→(s2.1:Int)≤l.txs:=by
  intro g
  have e:(aS b s1.2 (l.txs+1) 3).2.er=0:=by rw[h2];exact g
  have:=iP e (by omega)
  simp only[aS]at h2
  rw[show(bc b s1.2).1=s2.1 by rw[←h2]]at this
  simp only[decide_eq_false_iff_not]at this
  omega
 refine dr (σ:=Nat×Nat×List Bytes×Rd) (f0:=_) (by simp(disch:=omega) [VZ];rfl) (de.zq (s:=5) (k:=5) (i:=10) rfl rfl) (f1:=_) (es0:=_) (by simp(disch:=omega) [VZ];rfl) (by simp(disch:=omega) [VZ];rfl) (fun p=> [(7, .val false [.int .i64 (p.1:Int)]),(5, .box [.int .i64 s1.1.view, .int .i64 s1.1.height, .int .i64 s1.1.proposer, .ow 98307 12, .ow 98308 13, .int .i64 s1.1.qc.view, .int .i64 s1.1.qc.height, .ow 98311 16, .ow 98312 17, .ow 98313 18, .ow 5 p.2.1])]) (fun p=> [(4101, .pt 5 215 [.sl (bytes b), .int .i64 (p.2.2.2.at_:Int), .int .i64 (p.2.2.2.er:Int)]),(5, .sl p.2.1 true true (some (22,1)) (bH p.2.2.1))])
  (fun p g=>(g+p.1=s2.1∧p.2.2.1.length=p.1)∧(p.2.2.2.er=0→(s2.1:Int)≤l.txs)∧p.2.2.2.wf b∧cn (fun r=>dA b r l.tx.toNat) s2.1 s2.2=(p.2.2.1++(cn (fun r=>dA b r l.tx.toNat) g p.2.2.2).1,(cn (fun r=>dA b r l.tx.toNat) g p.2.2.2).2)) (0,_,[],s2.2) s2.1 (by simp(disch:=omega) [VZ];rfl) (by simp(disch:=omega) [bH,bC,VZ]) ⟨⟨by simp,rfl⟩,hn,w2.1,by simp⟩ ?_
 have hall:∀t∈(cn (fun r=>dA b r l.tx.toNat) s2.1 s2.2).1,t.length≤40:=xL (p:=fun t:Bytes=>t.length≤40) (b:=b) (fun r hr=>⟨(uZ hr _).1,Nat.le_trans (uZ hr _).2.1 (by omega)⟩) _ _ w2.1
 rintro⟨i,v,x,⟨qa,qe⟩⟩ nx g0 ⟨⟨hg,h5⟩,h10,h6,h7⟩ P hP
 simp only at hg h5 h6 h7 h10
 have hl2:(bH x).length=i:=by rw[aC];exact h5
 by_cases h9:qe=0
 ·subst h9
  by_cases h8:i < s2.1
  ·have h11:=h10 rfl
   simp(disch:=omega) [h8,bC,VZ]
   refine fK (mW b ⟨qa,0⟩ l.tx (by omega) h6 hb) ?_
   have w5:=uZ h6 l.tx.toNat
   obtain⟨g1,rfl⟩:∃g1,g0=g1+1:=⟨g0 - 1,by omega⟩
   rw[ly rfl]at h7
   simp only at h7
   generalize h12:dA b ⟨qa,0⟩ l.tx.toNat=s5 at w5 h7⊢
   simp(disch:=omega) [bC,hl2,FA,VZ]
   refine hP (i+1,_,x++ [s5.1],s5.2) g1 _ _ (by omega) ⟨⟨by simp only;omega,by simp[h5]⟩,fun _=>h11,w5.1,by rw[h7];simp⟩ (by simp(disch:=omega) [VZ];rfl) (by simp(disch:=omega) [bC,VZ])
  ·obtain rfl:g0=0:=by omega
   simp only[cn,List.append_nil]at h7
   have hx2:∀t∈x,t.length≤1073741823:=fun t ht=>Nat.le_trans (hall t (by rw[h7];exact ht)) (by omega)
   have h11:=h10 rfl
   simp(disch:=omega) [h8,bC,VZ]
   refine av (xY _ x rfl (by omega) hx2) ?_
   simp(disch:=omega) [VZ]
   refine av (aN _ _) ?_
   simp(disch:=omega) [bC,VZ]
   refine fK (aJ b ⟨qa,0⟩ (decide (s1.1.root=aV x)) 7) ?_
   simp(disch:=omega) [dI,h1,h2,h7,Block.o,bC,aG,aL,aR,VZ]
 ·rw[sc (k:=g0) (r:=⟨qa,qe⟩) h9]at h7
  simp only[List.append_nil]at h7
  by_cases h8:i < s2.1
  ·skip
   have hx2:∀t∈x,t.length≤1073741823:=fun t ht=>Nat.le_trans (hall t (by rw[h7];exact ht)) (by omega)
   simp(disch:=omega) [h8,h9,bC,VZ]
   refine fK (aJ b ⟨qa,qe⟩ true 7) ?_
   have h12:∀bad c,bL ⟨qa,qe⟩ bad c=⟨qa,qe⟩:=fun bad c=>iS h9
   simp(disch:=omega) [dI,h1,h2,h7,Block.o,bC,aG,aL,aR,h12,VZ]
  ·skip
   have hx2:∀t∈x,t.length≤1073741823:=fun t ht=>Nat.le_trans (hall t (by rw[h7];exact ht)) (by omega)
   simp(disch:=omega) [h8,h9,bC,VZ]
   refine fK (aJ b ⟨qa,qe⟩ true 7) ?_
   have h12:∀bad c,bL ⟨qa,qe⟩ bad c=⟨qa,qe⟩:=fun bad c=>iS h9
   simp(disch:=omega) [dI,h1,h2,h7,Block.o,bC,aG,aL,aR,h12,VZ]
end Go.Eng.F
namespace Go.Eng.F
theorem Jn (l:List Head) (h:Head):f6 l++ [[.int .i64 h.view, .int .i64 h.height, .int .i64 h.proposer, .sl (bytes h.parent), .sl (bytes h.root), .int .i64 h.qc.view, .int .i64 h.qc.height, .sl (bytes h.qc.block), .sl (bytes h.qc.bits), .sl (bH h.qc.tags)]]=f6 (l++ [h]):=by simp[f6,Head.c]
theorem J5 {b:Bytes} {l:ah} {r:Rd} (h:r.er≠0):(uI b l r).2=r:=by simp[uI,bc,bA,h]
theorem Ov.i64 {n:Int} (h:Ov n):nQ n:=⟨by have:=h.1;omega,by have:=h.2;omega⟩
theorem Qc.rd.wf {q:Qc} (h:q.rd):q.wf:=by
 obtain⟨⟨h1,h2⟩,h3,h4,h5,h6⟩:=h
 refine⟨h1.i64,h2.i64,?_,?_,?_⟩ <;>simp only[Sz] <;>omega
theorem Head.rd.wf {h:Head} (w:h.rd):h.wf:=by
 obtain⟨⟨h1,h2,h3⟩,h4,h5,h6⟩:=w
 refine⟨h1.i64,h2.i64,h3.i64,?_,?_,h6.wf⟩ <;>simp only[Sz] <;>omega
abbrev fX:Nat:=123
def ka:AF:=⟨2,6,[.cell 4 6 true],(.seq (.ops [.i (.lbox 2 (.s 0)), .i (.lal 4 [.nils, .int .i64 0, .int .i64 0, .nils, .nils, .nils])]) (.seq (.ops [.i (.bld 8 [.nils, .int .i64 0, .int .i64 0, .nils, .nils, .nils] []),qm 9 1,qk 11 165 9, .i (.lal 5 [.nils, .int .i64 0, .int .i64 0, .nils, .nils, .nils]),qs 5 5 8 6,qm 6 10]) (.seq (.ops [qm 11 1,qm 12 6, .i (.bin 13 .geq (.s 12) (qi 3)), .i (.call 15 172 false [(.s 11),(.s 13),(qi 5)])]) (.seq (.ops [qm 15 1,qm 16 6,qf 17 2 4,ql 18 2 17 1 false,qd 19 .leq 16 18, .i (.call 21 172 false [(.s 15),(.s 19),(qi 3)])]) (.seq (.seq (.ops [.i (.mov 7 (qi 0))]) (.block 0 (.loop [40,39,38,37,36,35,34,33,32,31,30,29,28,27,26,25,24,23,22,21] (.seq (.seq (.ops [qm 21 7,qm 22 6,qd 23 .lss 21 22,qm 24 23, .g 24 true 26 (.mov 25 (.s 1)), .g 24 true 27 (.nch 26 (.s 25)), .g 24 true 28 (.fad 27 (.s 26) 2), .g 24 true 29 (.ldh 28 (.s 27) 1 false), .g 24 true 30 (.bin 29 .eql (.s 28) (qi 0)), .i (.pick 30 (.s 24) (.s 29) (qb false))]) (.cond (.s 30) .skip (.exit 0))) (.seq (.block 1 (.ops [qf 33 5 0,ql 34 5 33 1 false,ql 35 2 2 5 true,qm 36 1, .i (.call 38 111 false [(.s 35),(.s 36)]), .i (.lsl 38 10 1 qz [(0,10,(.s 37))]), .i (.app 39 45 10 160 (.s 34) (.s 38)),qf 40 5 0,qs 5 40 39 1])) (.ops [qm 31 7, .i (.bin 32 .add (.s 31) (qi 1)),qm 7 32])))))) (.seq (.ops [ql 41 2 2 5 true,qm 42 1, .i (.call 44 106 false [(.s 41),(.s 42)]),qf 44 5 1,qs 5 44 43 5]) (.seq (.ops [qm 45 1,qm 46 1, .i (.nch 47 (.s 46)),qf 48 47 2, .i (.ldh 49 (.s 48) 1 false), .i (.bin 50 .neq (.s 49) (qi 0)),qm 51 50, .g 51 false 53 (.ldl 52 5 (.s 5) 6 true), .g 51 false 54 (.call 54 179 false [(.s 52)]), .i (.pick 54 (.s 51) (qb true) (.s 53)), .i (.call 56 172 false [(.s 45),(.s 54),(qi 6)])]) (.seq (.ops [ql 56 5 5 6 true,qs 4 4 56 6]) .ret))))))))⟩
theorem xB:cd fX=some ka:=by kernel_rfl
theorem wk (b:Bytes) (l:ah) (r:Rd) (hL:l.rd) (hr:r.wf b) (hb:b.length≤1073741824):VC cd fX (iX [(true,l.c)] 215 (bC b r) []) (fun rs p=>rs= [(true,(dv b l r).1.o)]∧p= [.pt 215 (bC b (dv b l r).2)]):=by
 refine VC.lL ?_
 obtain⟨hl,hx,ht,hh⟩:=hL
 refine ay xB rfl ?_
 simp(disch:=omega) [ka,bC,ah.c,VZ]
 refine fK (bM b r hr hb) ?_
 have w1:=dk hr
 generalize h1:bc b r=s1 at w1⊢
 simp(disch:=omega) [bC,VZ]
 refine fK (aJ b s1.2 (decide (3≤(s1.1:Int))) 5) ?_
 have e2:(!decide (3≤(s1.1:Int)))=decide (s1.1 < 3):=by rw[←decide_not,decide_eq_decide];omega
 rw[e2]
 have w2:=eD (bad:=decide (s1.1 < 3)) (c:=5) w1.1 (by omega)
 generalize h2:bL s1.2 (decide (s1.1 < 3)) 5=s2 at w2⊢
 simp(disch:=omega) [bC,VZ]
 refine fK (aJ b s2 (decide ((s1.1:Int)≤l.heads)) 3) ?_
 have e3:(!decide ((s1.1:Int)≤l.heads))=decide (l.heads < (s1.1:Int)):=by rw[←decide_not,decide_eq_decide];omega
 rw[e3]
 have w3:=eD (bad:=decide (l.heads < (s1.1:Int))) (c:=3) w2 (by omega)
 generalize h3:bL s2 (decide (l.heads < (s1.1:Int))) 3=s3 at w3⊢
 simp(disch:=omega) [bC,VZ]
 have hn:s3.er=0→3≤s1.1∧(s1.1:Int)≤l.heads:=by
  intro g
  have e:=iP (by rw[h3];exact g) (by omega)
  have g2:s2.er=0:=by
   have:=iS (r:=s2) (bad:=decide (l.heads < (s1.1:Int))) (c:=3)
   rw[h3]at this
   by_cases g3:s2.er=0
   ·exact g3
   ·rw[←this g3];exact g
  have e2:=iP (by rw[h2];exact g2) (by omega)
  simp only[decide_eq_false_iff_not]at e e2
  omega
 refine dr (σ:=Nat×Nat×List Head×Rd) (f0:=_) (by simp(disch:=omega) [VZ];rfl) (de.zq (s:=5) (k:=5) (i:=0) rfl rfl) (f1:=_) (es0:=_) (by simp(disch:=omega) [VZ];rfl) (by simp(disch:=omega) [VZ];rfl) (fun p=> [(7, .val false [.int .i64 (p.1:Int)]),(5, .box [.ow 5 p.2.1, .int .i64 0, .int .i64 0, .nils, .nils, .nils])]) (fun p=> [(4101, .pt 5 215 [.sl (bytes b), .int .i64 (p.2.2.2.at_:Int), .int .i64 (p.2.2.2.er:Int)]),(5, .sl p.2.1 true true (some (45,10)) (f6 p.2.2.1))])
  (fun p g=>(g+p.1=s1.1∧p.2.2.1.length=p.1)∧(p.2.2.2.er=0→3≤s1.1∧(s1.1:Int)≤l.heads)∧p.2.2.2.wf b∧cn (cV b l) s1.1 s3=(p.2.2.1++(cn (cV b l) g p.2.2.2).1,(cn (cV b l) g p.2.2.2).2)) (0,_,[],s3) s1.1 (by simp(disch:=omega) [VZ];rfl) (by simp(disch:=omega) [f6,bC,VZ]) ⟨⟨by simp,rfl⟩,hn,w3,by simp⟩ ?_
 have hall:∀t∈(cn (cV b l) s1.1 s3).1,t.rd:=xL (p:=fun t:Head=>t.rd) (b:=b) (fun r hr=>Ai hr) _ _ w3
 rintro⟨i,v,x,⟨qa,qe⟩⟩ nx g0 ⟨⟨hg,h5⟩,h10,h6,h7⟩ P hP
 simp only at hg h5 h6 h7 h10
 have hl2:(f6 x).length=i:=by rw[di];exact h5
 by_cases h9:qe=0
 ·subst h9
  by_cases h8:i < s1.1
  ·have h11:=h10 rfl
   simp(disch:=omega) [h8,bC,VZ]
   refine fK (gd b l ⟨qa,0⟩ hl h6 hb) ?_ (n1:=by simp(disch:=omega) [Head.o,VZ]) (n3:=by simp(disch:=omega) [Head.o,VZ])
   have w5:=Ai (l:=l) h6
   obtain⟨g1,rfl⟩:∃g1,g0=g1+1:=⟨g0 - 1,by omega⟩
   rw[ly rfl]at h7
   simp only at h7
   generalize h12:cV b l ⟨qa,0⟩=s5 at w5 h7⊢
   simp(disch:=omega) [bC,hl2,Head.o,Jn,VZ]
   refine hP (i+1,_,x++ [s5.1],s5.2) g1 _ _ (by omega) ⟨⟨by simp only;omega,by simp[h5]⟩,fun _=>h11,w5.1,by rw[h7];simp⟩ (by simp(disch:=omega) [VZ];rfl) (by simp(disch:=omega) [bC,VZ])
  ·obtain rfl:g0=0:=by omega
   simp only[cn,List.append_nil]at h7
   have hx2:∀t∈x,t.wf:=fun t ht=>(hall t (by rw[h7];exact ht)).wf
   simp(disch:=omega) [h8,bC,VZ]
   refine fK (dW b l ⟨qa,0⟩ hl h6 hb) ?_ (n1:=by simp(disch:=omega) [Qc.o,VZ]) (n3:=by simp(disch:=omega) [Qc.o,VZ])
   have w13:=Bv (l:=l) h6
   generalize h13:uI b l ⟨qa,0⟩=s13 at w13⊢
   obtain⟨q2,⟨qa,qe⟩⟩:=s13
   simp only at w13
   simp(disch:=omega) [bC,Qc.o,VZ]
   by_cases h14:qe=0
   ·subst h14
    have h15:3≤x.length:=by have:=h10 rfl;omega
    simp(disch:=omega) [VZ]
    refine av (Ko ⟨x,q2⟩ (by simp only;omega) ⟨⟨by have:=h10 rfl;simp only[Sz];omega,hx2⟩,w13.2.wf⟩) ?_ (ha:=by first|rfl|(simp[Proof.c,VY] <;>repeat' constructor))
    simp(disch:=omega) [bC,VZ]
    refine fK (aJ b ⟨qa,0⟩ (qT ⟨x,q2⟩) 6) ?_
    simp(disch:=omega) [dv,h1,h2,h3,h7,h13,Proof.o,bC,aG,aL,aR,VZ]
   ·simp(disch:=omega) [h14,bC,VZ]
    refine fK (aJ b ⟨qa,qe⟩ true 6) ?_
    have h12:∀bad c,bL ⟨qa,qe⟩ bad c=⟨qa,qe⟩:=fun bad c=>iS h14
    simp(disch:=omega) [dv,h1,h2,h3,h7,h13,Proof.o,bC,aG,aL,aR,h12,VZ]
 ·rw[sc (k:=g0) (r:=⟨qa,qe⟩) h9]at h7
  simp only[List.append_nil]at h7
  by_cases h8:i < s1.1
  ·skip
   have hx2:∀t∈x,t.wf:=fun t ht=>(hall t (by rw[h7];exact ht)).wf
   simp(disch:=omega) [h8,h9,bC,VZ]
   refine fK (dW b l ⟨qa,qe⟩ hl h6 hb) ?_ (n1:=by simp(disch:=omega) [Qc.o,VZ]) (n3:=by simp(disch:=omega) [Qc.o,VZ])
   have w13:=Bv (l:=l) h6
   have h16:=J5 (b:=b) (l:=l) (r:=⟨qa,qe⟩) h9
   generalize h13:uI b l ⟨qa,qe⟩=s13 at w13 h16⊢
   obtain⟨q2,q3⟩:=s13
   simp only at w13 h16
   subst h16
   simp(disch:=omega) [bC,Qc.o,h9,VZ]
   refine fK (aJ b ⟨qa,qe⟩ true 6) ?_
   have h12:∀bad c,bL ⟨qa,qe⟩ bad c=⟨qa,qe⟩:=fun bad c=>iS h9
   simp(disch:=omega) [dv,h1,h2,h3,h7,h13,Proof.o,bC,aG,aL,aR,h12,VZ]
  ·skip
   have hx2:∀t∈x,t.wf:=fun t ht=>(hall t (by rw[h7];exact ht)).wf
   simp(disch:=omega) [h8,h9,bC,VZ]
   refine fK (dW b l ⟨qa,qe⟩ hl h6 hb) ?_ (n1:=by simp(disch:=omega) [Qc.o,VZ]) (n3:=by simp(disch:=omega) [Qc.o,VZ])
   have w13:=Bv (l:=l) h6
   have h16:=J5 (b:=b) (l:=l) (r:=⟨qa,qe⟩) h9
   generalize h13:uI b l ⟨qa,qe⟩=s13 at w13 h16⊢
   obtain⟨q2,q3⟩:=s13
   simp only at w13 h16
   subst h16
   simp(disch:=omega) [bC,Qc.o,h9,VZ]
   refine fK (aJ b ⟨qa,qe⟩ true 6) ?_
   have h12:∀bad c,bL ⟨qa,qe⟩ bad c=⟨qa,qe⟩:=fun bad c=>iS h9
   simp(disch:=omega) [dv,h1,h2,h3,h7,h13,Proof.o,bC,aG,aL,aR,h12,VZ]
end Go.Eng.F
namespace Go.Eng.F
def Tc.o (t:Tc):List E:= [.p (.int .i64 t.view), .o true (some (165,3)) (lU t.entries)]
theorem J3 (l:List Entry) (w h:Int) (t:Bytes):lU l++ [[.int .i64 w, .int .i64 h, .sl (bytes t)]]=lU (l++ [⟨w,h,t⟩]):=by simp[lU,Entry.c]
theorem Ec {b:Bytes} {l:ah} {v:Int} {k:Nat} {bf:Int} {r:Rd} (h:r.er≠0):fT b l v k bf r=([],r):=by
 cases k
 ·rfl
 ·rw[fT,if_neg h]
theorem Br {b:Bytes} {l:ah} {v:Int} {k:Nat} {bf:Int} {r:Rd} (h:r.er=0):fT b l v (k+1) bf r=
 (let w:=aS b r l.n 5
  let h:=aS b (bL w.2 (decide ((w.1:Int)≤bf)) 6) v 6
  let t:=bA b h.2 32
  (⟨w.1,h.1,t.1⟩::(fT b l v k w.1 t.2).1,(fT b l v k w.1 t.2).2)):=by
 rw[fT,if_pos h]
abbrev jG:Nat:=119
def sM:AF:=⟨2,6,[.cell 4 2 true],(.seq (.ops [.i (.lbox 2 (.s 0)), .i (.lal 4 [.int .i64 0, .nils])]) (.seq (.ops [qm 10 1,qk 12 165 10, .i (.bld 12 [.int .i64 0, .nils] [(0,1,(.s 11))]), .i (.lal 5 [.int .i64 0, .nils]),qs 5 5 12 2]) (.seq (.ops [qm 13 1,qf 14 2 0,ql 15 2 14 1 false, .i (.bin 16 .add (.s 15) (qi 1)), .i (.call 18 167 false [(.s 13),(.s 16),(qi 3)]),qm 6 17, .i (.mov 7 (qi (-1)))]) (.seq (.seq (.ops [.i (.mov 8 (qi 0))]) (.block 0 (.loop [56,55,54,53,52,51,50,49,48,47,46,45,44,43,42,41,40,39,38,37,36,35,34,33,32,31,30,29,28,27,26,25,24,23,22,21,20,19,18,9] (.seq (.seq (.ops [qm 18 8,qm 19 6,qd 20 .lss 18 19,qm 21 20, .g 21 true 23 (.mov 22 (.s 1)), .g 21 true 24 (.nch 23 (.s 22)), .g 21 true 25 (.fad 24 (.s 23) 2), .g 21 true 26 (.ldh 25 (.s 24) 1 false), .g 21 true 27 (.bin 26 .eql (.s 25) (qi 0)), .i (.pick 27 (.s 21) (.s 26) (qb false))]) (.cond (.s 27) .skip (.exit 0))) (.seq (.block 1 (.seq (.ops [qm 30 1,qf 31 2 0,ql 32 2 31 1 false, .i (.call 34 167 false [(.s 30),(.s 32),(qi 5)]), .i (.bld 34 [.int .i64 0, .int .i64 0, .nils] [(0,1,(.s 33))]), .i (.lal 9 [.int .i64 0, .int .i64 0, .nils]),qs 9 9 34 3]) (.seq (.ops [qm 35 1,qf 36 9 0,ql 37 9 36 1 false,qm 38 7,qd 39 .gtr 37 38, .i (.call 41 172 false [(.s 35),(.s 39),(qi 6)])]) (.seq (.ops [qf 41 9 0,ql 42 9 41 1 false,qm 7 42]) (.seq (.ops [qm 43 1,qf 44 5 0,ql 45 5 44 1 false, .i (.call 47 167 false [(.s 43),(.s 45),(qi 6)]),qf 47 9 1,qs 9 47 46 1]) (.seq (.ops [qm 48 1,qk 50 166 48,qf 50 9 2,qs 9 50 49 1]) (.ops [qf 51 5 1,ql 52 5 51 1 false,ql 53 9 9 3 true, .i (.lsl 54 3 1 [.int .i64 0, .int .i64 0, .nils] [(0,3,(.s 53))]), .i (.app 55 165 3 40 (.s 52) (.s 54)),qf 56 5 1,qs 5 56 55 1]))))))) (.ops [qm 28 8, .i (.bin 29 .add (.s 28) (qi 1)),qm 8 29])))))) (.seq (.ops [ql 57 5 5 2 true,qs 4 4 57 2]) .ret)))))⟩
theorem C8:cd jG=some sM:=by kernel_rfl
theorem A0 (b:Bytes) (l:ah) (r:Rd) (hL:l.rd) (hr:r.wf b) (hb:b.length≤1073741824):VC cd jG (iX [(true,l.c)] 215 (bC b r) []) (fun rs p=>rs= [(true,(Fh b l r).1.o)]∧p= [.pt 215 (bC b (Fh b l r).2)]):=by
 refine VC.lL ?_
 obtain⟨hl,hx,ht,hh⟩:=hL
 refine ay C8 rfl ?_
 simp(disch:=omega) [sM,bC,ah.c,VZ]
 refine fK (bM b r hr hb) ?_
 have w1:=dk hr
 generalize h1:bc b r=s1 at w1⊢
 simp(disch:=omega) [bC,VZ]
 refine fK (cL b s1.2 (l.n+1) 3 w1.1 hb) ?_
 have w2:=eX (n:=(l.n+1)) (c:=3) w1.1 (by omega)
 generalize h2:aS b s1.2 (l.n+1) 3=s2 at w2⊢
 simp(disch:=omega) [bC,VZ]
 have hn:s2.2.er=0→(s2.1:Int)≤l.n:=by
  intro g
  have e:(aS b s1.2 (l.n+1) 3).2.er=0:=by rw[h2];exact g
  have:=iP e (by omega)
  simp only[aS]at h2
  rw[show(bc b s1.2).1=s2.1 by rw[←h2]]at this
  simp only[decide_eq_false_iff_not]at this
  omega
 refine dr (σ:=Nat×Nat×Int×List Entry×Rd) (f0:=_) (by simp(disch:=omega) [VZ];rfl) (de.zq (s:=5) (k:=5) (i:=1) rfl rfl) (f1:=_) (es0:=_) (by simp(disch:=omega) [VZ];rfl) (by simp(disch:=omega) [VZ];rfl) (fun p=> [(8, .val false [.int .i64 (p.1:Int)]),(7, .val false [.int .i64 p.2.2.1]),(5, .box [.int .i64 s1.1, .ow 5 p.2.1])]) (fun p=> [(4101, .pt 5 215 [.sl (bytes b), .int .i64 (p.2.2.2.2.at_:Int), .int .i64 (p.2.2.2.2.er:Int)]),(5, .sl p.2.1 true true (some (165,3)) (lU p.2.2.2.1))])
  (fun p g=>(g+p.1=s2.1∧p.2.2.2.1.length=p.1)∧(p.2.2.2.2.er=0→(s2.1:Int)≤l.n)∧p.2.2.2.2.wf b∧(-1≤p.2.2.1∧p.2.2.1≤1152921504606846975)∧fT b l s1.1 s2.1 (-1) s2.2=(p.2.2.2.1++(fT b l s1.1 g p.2.2.1 p.2.2.2.2).1,(fT b l s1.1 g p.2.2.1 p.2.2.2.2).2)) (0,_, -1,[],s2.2) s2.1 (by simp(disch:=omega) [VZ];rfl) (by simp(disch:=omega) [lU,bC,VZ]) ⟨⟨by simp,rfl⟩,hn,w2.1,⟨by simp,by simp⟩,by simp⟩ ?_
 rintro⟨i,v,bf,x,⟨qa,qe⟩⟩ nx g0 ⟨⟨hg,h5⟩,h10,h6,hbf,h7⟩ P hP
 simp only at hg h5 h6 h7 h10 hbf
 have hl2:(lU x).length=i:=by rw[dG];exact h5
 by_cases h9:qe=0
 ·subst h9
  by_cases h8:i < s2.1
  ·have h11:=h10 rfl
   simp(disch:=omega) [h8,bC,VZ]
   refine fK (cL b ⟨qa,0⟩ l.n 5 h6 hb) ?_
   have w21:=eX (n:=l.n) (c:=5) h6 (by omega)
   generalize h21:aS b ⟨qa,0⟩ l.n 5=s21 at w21⊢
   simp(disch:=omega) [bC,VZ]
   refine fK (aJ b s21.2 (decide (bf < (s21.1:Int))) 6) ?_
   have e22:(!decide (bf < (s21.1:Int)))=decide ((s21.1:Int)≤bf):=by rw[←decide_not,decide_eq_decide];omega
   rw[e22]
   have w22:=eD (bad:=decide ((s21.1:Int)≤bf)) (c:=6) w21.1 (by omega)
   generalize h22:bL s21.2 (decide ((s21.1:Int)≤bf)) 6=s22 at w22⊢
   simp(disch:=omega) [bC,VZ]
   refine fK (cL b s22 (s1.1:Int) 6 w22 hb) ?_
   have w23:=eX (n:=(s1.1:Int)) (c:=6) w22 (by omega)
   generalize h23:aS b s22 (s1.1:Int) 6=s23 at w23⊢
   simp(disch:=omega) [bC,VZ]
   refine fK (cC b s23.2 w23.1 hb) ?_
   have w24:=eI w23.1 32
   generalize h24:bA b s23.2 32=s24 at w24⊢
   simp(disch:=omega) [bC,VZ]
   obtain⟨g1,rfl⟩:∃g1,g0=g1+1:=⟨g0 - 1,by omega⟩
   rw[Br rfl]at h7
   simp only[h21,h22,h23,h24]at h7
   simp(disch:=omega) [bC,hl2,J3,VZ]
   refine hP (i+1,_,(s21.1:Int),x++ [⟨(s21.1:Int),(s23.1:Int),s24.1⟩],s24.2) g1 _ _ (by omega) ⟨⟨by simp only;omega,by simp[h5]⟩,fun _=>h11,w24.1,⟨by simp only;omega,by have:=w21.2;simp only;omega⟩,by rw[h7];simp⟩ (by simp(disch:=omega) [VZ];rfl) (by simp(disch:=omega) [bC,VZ])
  ·obtain rfl:g0=0:=by omega
   simp only[fT,List.append_nil]at h7
   simp(disch:=omega) [h8,Fh,h1,h2,h7,Tc.o,bC,aG,aL,aR,VZ]
 ·rw[Ec (k:=g0) (r:=⟨qa,qe⟩) h9]at h7
  simp only[List.append_nil]at h7
  by_cases h8:i < s2.1
  ·simp(disch:=omega) [h8,h9,Fh,h1,h2,h7,Tc.o,bC,aG,aL,aR,VZ]
  ·simp(disch:=omega) [h8,h9,Fh,h1,h2,h7,Tc.o,bC,aG,aL,aR,VZ]
end Go.Eng.F
namespace Go.Eng.F
theorem du {r:Rd} {bad:Bool} {c:Nat} (h:(bL r bad c).er=0):r.er=0:=by
 apply Decidable.byContradiction
 intro g
 rw[iS g]at h
 exact g h
theorem JK {b:Bytes} {r:Rd} (h:(bc b r).2.er=0):r.er=0:=by
 apply Decidable.byContradiction
 intro g
 simp[bc,g]at h
theorem Ns {b:Bytes} {r:Rd} {n:Nat} (h:(bA b r n).2.er=0):r.er=0:=by
 apply Decidable.byContradiction
 intro g
 simp[bA,g]at h
theorem G5 {b:Bytes} {r:Rd} {n:Nat} (h:(dA b r n).2.er=0):r.er=0:=by
 apply Decidable.byContradiction
 intro g
 simp[dA,g]at h
theorem Ki {b:Bytes} {l:ah} {r:Rd} (h:(bZ b l r).2.er=0):(bZ b l r).1.2.2.1 < (bZ b l r).1.2.1∧((bZ b l r).1.2.1:Int)≤l.txs:=by
 simp only[bZ,aS]at h⊢
 have h1:=G5 h
 have h2:=iP h1 (by omega)
 have h4:=JK (du h1)
 have h5:=iP h4 (by omega)
 simp only[decide_eq_false_iff_not]at h2 h5
 omega
theorem Lh {b:Bytes} {k:Nat} {r:Rd} (h:r.er≠0):(eU (fun r=>bA b r 32) k r).2=r:=by
 induction k with
 |zero=>rfl
 |succ k ih=>
  have e:(bA b r 32).2=r:=by simp[bA,h]
  simp only[eU,e,ih]
theorem Ea {b:Bytes}:∀(k:Nat) (r:Rd),(eU (fun r=>bA b r 32) k r).2=(cn (fun r=>bA b r 32) k r).2∧((cn (fun r=>bA b r 32) k r).2.er=0→(eU (fun r=>bA b r 32) k r).1=(cn (fun r=>bA b r 32) k r).1)
 |0,r=>⟨rfl,fun _=>rfl⟩
 |k+1,r=>by
  by_cases h:r.er=0
  ·rw[ly h]
   have:=Ea (b:=b) k (bA b r 32).2
   exact⟨this.1,fun g=>by simp only[eU];rw[this.2 g]⟩
  ·rw[sc h,Lh h]
   exact⟨rfl,fun g=>absurd g h⟩
def fu (b:Bytes) (l:ah) (r:Rd):bo×Rd:=
 let i:=bZ b l r
 if i.2.er=0 then
  let p:=eU (fun r=>bA b r 32) (bj i.1.2.2.1 i.1.2.1) i.2
  (⟨i.1.1,i.1.2.1,i.1.2.2.1,i.1.2.2.2,p.1⟩,p.2)
 else(⟨i.1.1,i.1.2.1,i.1.2.2.1,i.1.2.2.2,[]⟩,i.2)
abbrev gS:Nat:=127
def m7:AF:=⟨2,6,[.cell 4 5 true],(.seq (.ops [.i (.lbox 2 (.s 0)), .i (.lal 4 [.int .i64 0, .int .i64 0, .int .i64 0, .nils, .nils])]) (.seq (.ops [qm 6 1,qk 8 165 6,qm 8 1,qk 10 165 8, .i (.bld 10 [.int .i64 0, .int .i64 0, .int .i64 0, .nils, .nils] [(0,1,(.s 7)),(1,1,(.s 9))]), .i (.lal 5 [.int .i64 0, .int .i64 0, .int .i64 0, .nils, .nils]),qs 5 5 10 5]) (.seq (.ops [qm 11 1,qf 12 5 1,ql 13 5 12 1 false, .i (.bin 14 .gtr (.s 13) (qi 0)), .i (.call 16 172 false [(.s 11),(.s 14),(qi 5)])]) (.seq (.ops [qm 16 1,qf 17 5 1,ql 18 5 17 1 false,qf 19 2 2,ql 20 2 19 1 false,qd 21 .leq 18 20, .i (.call 23 172 false [(.s 16),(.s 21),(qi 3)])]) (.seq (.ops [qm 23 1,qf 24 5 1,ql 25 5 24 1 false, .i (.call 27 167 false [(.s 23),(.s 25),(qi 5)]),qf 27 5 2,qs 5 27 26 1]) (.seq (.ops [qm 28 1,qf 29 2 1,ql 30 2 29 1 false, .i (.call 32 177 false [(.s 28),(.s 30)]),qf 32 5 3,qs 5 32 31 1]) (.seq (.seq (.ops [qm 33 1, .i (.nch 34 (.s 33)),qf 35 34 2, .i (.ldh 36 (.s 35) 1 false), .i (.bin 37 .eql (.s 36) (qi 0))]) (.cond (.s 37) (.seq (.ops [qf 38 5 2,ql 39 5 38 1 false,qf 40 5 1,ql 41 5 40 1 false, .i (.call 43 180 false [(.s 39),(.s 41)]), .i (.mov 43 (qi 0))]) (.block 0 (.loop [52,51,50,49,48,47,46,45,44] (.seq (.ops [qd 44 .lss 43 42]) (.seq (.cond (.s 44) .skip (.exit 0)) (.seq (.block 1 (.ops [qf 45 5 4,ql 46 5 45 1 false,qm 47 1,qk 49 166 47, .i (.lsl 49 1 1 [.nils] [(0,1,(.s 48))]), .i (.app 50 22 1 24 (.s 46) (.s 49)),qf 51 5 4,qs 5 51 50 1])) (.ops [.i (.bin 52 .add (.s 43) (qi 1)),qm 43 52]))))))) .skip)) (.seq (.ops [ql 53 5 5 5 true,qs 4 4 53 5]) .ret))))))))⟩
theorem zB:cd gS=some m7:=by kernel_rfl
theorem xM (b:Bytes) (l:ah) (r:Rd) (hL:l.rd) (hr:r.wf b) (hb:b.length≤1073741824):VC cd gS (iX [(true,l.c)] 215 (bC b r) []) (fun rs p=>rs= [(true,(fu b l r).1.o)]∧p= [.pt 215 (bC b (fu b l r).2)]):=by
 refine VC.lL ?_
 obtain⟨hl,hx,ht,hh⟩:=hL
 have hi:=Ki (b:=b) (l:=l) (r:=r)
 refine ay zB rfl ?_
 simp(disch:=omega) [m7,bC,ah.c,VZ]
 refine fK (bM b r hr hb) ?_
 have w1:=dk hr
 generalize h1:bc b r=s1 at w1⊢
 simp(disch:=omega) [bC,VZ]
 refine fK (bM b s1.2 w1.1 hb) ?_
 have w2:=dk w1.1
 generalize h2:bc b s1.2=s2 at w2⊢
 simp(disch:=omega) [bC,VZ]
 refine fK (aJ b s2.2 (decide (0 < s2.1)) 5) ?_
 have e3:(!decide (0 < s2.1))=decide (s2.1=0):=by rw[←decide_not,decide_eq_decide];omega
 rw[e3]
 have w3:=eD (bad:=decide (s2.1=0)) (c:=5) w2.1 (by omega)
 generalize h3:bL s2.2 (decide (s2.1=0)) 5=s3 at w3⊢
 simp(disch:=omega) [bC,VZ]
 refine fK (aJ b s3 (decide ((s2.1:Int)≤l.txs)) 3) ?_
 have e4:(!decide ((s2.1:Int)≤l.txs))=decide (l.txs < (s2.1:Int)):=by rw[←decide_not,decide_eq_decide];omega
 rw[e4]
 have w4:=eD (bad:=decide (l.txs < (s2.1:Int))) (c:=3) w3 (by omega)
 generalize h4:bL s3 (decide (l.txs < (s2.1:Int))) 3=s4 at w4⊢
 simp(disch:=omega) [bC,VZ]
 refine fK (cL b s4 (s2.1:Int) 5 w4 hb) ?_
 have w5:=eX (n:=(s2.1:Int)) (c:=5) w4 (by omega)
 generalize h5:aS b s4 (s2.1:Int) 5=s5 at w5⊢
 simp(disch:=omega) [bC,VZ]
 refine fK (mW b s5.2 l.tx (by omega) w5.1 hb) ?_
 have w6:=uZ w5.1 l.tx.toNat
 generalize h6:dA b s5.2 l.tx.toNat=s6 at w6⊢
 simp(disch:=omega) [bC,VZ]
 have hi0:bZ b l r=((s1.1,s2.1,s5.1,s6.1),s6.2):=by simp only[bZ,h1,h2,h3,h4,h5,h6]
 rw[hi0]at hi
 simp only at hi
 by_cases g:s6.2.er=0
 case neg=>simp(disch:=omega) [g,fu,hi0,bo.o,bC,aG,aL,aR,ag,bH,VZ]
 have hi2:=hi g
 have hpl:=cI s2.1 s5.1
 simp(disch:=omega) [g,VZ]
 refine av (zW s2.1 s5.1 (by omega) (by omega)) ?_
 simp(disch:=omega) [VZ]
 refine dr (σ:=Nat×Nat×List Bytes×Rd) (f0:=_) (by simp(disch:=omega) [VZ];rfl) (de.zq (s:=5) (k:=5) (i:=4) rfl rfl) (f1:=_) (es0:=_) (by simp(disch:=omega) [VZ];rfl) (by simp(disch:=omega) [VZ];rfl) (fun p=> [(43, .val false [.int .i64 (p.1:Int)]),(5, .box [.int .i64 s1.1, .int .i64 s2.1, .int .i64 s5.1, .ow 270336 32, .ow 5 p.2.1])]) (fun p=> [(4101, .pt 5 215 [.sl (bytes b), .int .i64 (p.2.2.2.at_:Int), .int .i64 (p.2.2.2.er:Int)]),(5, .sl p.2.1 true true (some (22,1)) (bH p.2.2.1))])
  (fun p g=>(g+p.1=(bj s5.1 s2.1)∧p.2.2.1.length=p.1)∧p.2.2.2.wf b∧eU (fun r=>bA b r 32) (bj s5.1 s2.1) s6.2=(p.2.2.1++(eU (fun r=>bA b r 32) g p.2.2.2).1,(eU (fun r=>bA b r 32) g p.2.2.2).2)) (0,_,[],s6.2) (bj s5.1 s2.1) (by simp(disch:=omega) [VZ];rfl) (by simp(disch:=omega) [bH,bC,g,VZ]) ⟨⟨by simp,rfl⟩,w6.1,by simp⟩ ?_
 rintro⟨i,v,x,q⟩ nx g0 ⟨⟨hg,h5⟩,h6,h7⟩ P hP
 simp only at hg h5 h6 h7
 have hl2:(bH x).length=i:=by rw[aC];exact h5
 simp(disch:=omega) [VZ]
 refine ab (fun h8=> ?_) (fun h8=> ?_)
 ·simp(disch:=omega) [bC,VZ]
  refine fK (cC b q h6 hb) ?_
  have w25:=eI h6 32
  obtain⟨g1,rfl⟩:∃g1,g0=g1+1:=⟨g0 - 1,by omega⟩
  simp only[eU]at h7
  generalize h9:bA b q 32=s25 at w25 h7⊢
  simp(disch:=omega) [bC,hl2,FA,VZ]
  refine hP (i+1,_,x++ [s25.1],s25.2) g1 _ _ (by omega) ⟨⟨by simp only;omega,by simp[h5]⟩,w25.1,by rw[h7];simp⟩ (by simp(disch:=omega) [VZ];rfl) (by simp(disch:=omega) [bC,VZ])
 ·obtain rfl:g0=0:=by omega
  simp only[eU,List.append_nil]at h7
  simp(disch:=omega) [fu,hi0,g,h7,bo.o,bC,aG,aL,aR,VZ]
end Go.Eng.F
namespace Go.Eng.F
def b9 (x:List E) (z:List E) (r:Rd):List (Bool×List E):=if r.er=0 then [(true,x),(false,[.p (.int .i64 (r.at_:Int))]),(false,[.p (.int .i64 0)])]else [(true,z),(false,[.p (.int .i64 0)]),(false,[.p (.int .i64 (r.er:Int))])]
def Rt:List E:= [.p (.int .i64 0), .p (.int .i64 0), .p .nils, .p .nils, .p .nils]
def GZ:List E:= [.p (.int .i64 0), .p (.int .i64 0), .p .nils, .p (.int .i64 0), .p .nils]
def HX:List E:= [.p (.int .i64 0), .p (.int .i64 0), .p (.int .i64 0), .p .nils, .p .nils, .p (.int .i64 0), .p (.int .i64 0), .p .nils, .p .nils, .p .nils]
def Cr:List E:= [.p (.int .i64 0), .p (.int .i64 0), .p (.int .i64 0), .p .nils, .p .nils, .p (.int .i64 0), .p (.int .i64 0), .p .nils, .p .nils, .p .nils, .p .nils]
def Rh:List E:= [.p (.int .i64 0), .p .nils]
def Az:List E:= [.p .nils, .p (.int .i64 0), .p (.int .i64 0), .p .nils, .p .nils, .p .nils]
def Hr:List E:= [.p (.int .i64 0), .p (.int .i64 0), .p (.int .i64 0), .p .nils, .p .nils]
abbrev fR:Nat:=101
def fS:AF:=⟨4,6,[.cell 8 5 true, .tmp 9, .tmp 10],(.seq (.ops [.i (.lbox 4 (.s 0)), .i (.lal 8 [.int .i64 0, .int .i64 0, .nils, .int .i64 0, .nils]), .i (.mov 9 (qi 0)), .i (.mov 10 (qi 0))]) (.seq (.ops [.i (.lal 11 [.int .i64 0, .int .i64 0, .nils, .int .i64 0, .nils])]) (.seq (.seq (.ops [ql 14 4 4 5 true,qk 16 95 14, .i (.not 16 (.s 15))]) (.cond (.s 16) (.seq (.ops [ql 17 11 11 5 true,qs 8 8 17 5, .i (.mov 9 (qi 0)), .i (.mov 10 (qi 5))]) .ret) .skip)) (.seq (.ops [qm 18 1,qm 19 2, .i (.bld 20 [.nils, .int .i64 0, .int .i64 0] [(0,1,(.s 18)),(1,1,(.s 19))]), .i (.hbox 21 215 (.s 20)),qm 12 21]) (.seq (.ops [qm 22 3,ql 23 4 4 5 true,qm 24 12, .i (.clv 26 false (.s 22) [(.s 23),(.s 24)]), .i (.lal 13 [.int .i64 0, .int .i64 0, .nils, .int .i64 0, .nils]),qs 13 13 25 5]) (.seq (.seq (.ops [qm 26 12, .i (.nch 27 (.s 26)),qf 28 27 2, .i (.ldh 29 (.s 28) 1 false), .i (.bin 30 .neq (.s 29) (qi 0))]) (.cond (.s 30) (.seq (.ops [ql 31 11 11 5 true,qm 32 12, .i (.nch 33 (.s 32)),qf 34 33 2, .i (.ldh 35 (.s 34) 1 false),qs 8 8 31 5, .i (.mov 9 (qi 0)),qm 10 35]) .ret) .skip)) (.seq (.ops [ql 36 13 13 5 true,qm 37 12, .i (.nch 38 (.s 37)),qf 39 38 1, .i (.ldh 40 (.s 39) 1 false),qs 8 8 36 5,qm 9 40, .i (.mov 10 (qi 0))]) .ret)))))))⟩
theorem nO:cd fR=some fS:=by kernel_rfl
theorem nR (b:Bytes) (l:ah) (k:Nat) (hok:l.ok=true) (hk:k≤b.length) (hb:b.length≤1073741824):VC cd fR (aE [(true,l.c),(false,[.sl (bytes b)]),(false,[.int .i64 (k:Int)]),(false,[.fn gU])]) (fun rs _=>rs=b9 (gJ b l ⟨k,0⟩).1.o GZ (gJ b l ⟨k,0⟩).2):=by
 have hr:Rd.wf b ⟨k,0⟩:=⟨hk,by simp⟩
 refine aa nO rfl ?_
 simp(disch:=omega) [fS,ah.c,VZ]
 refine av (ba l) ?_ (ha:=by first|rfl|(simp[ah.c,VY] <;>repeat' constructor))
 simp(disch:=omega) [hok,VZ]
 refine fK (xy b l ⟨k,0⟩ hr hb) ?_ (n1:=by simp(disch:=omega) [bu.o,VZ]) (n3:=by simp(disch:=omega) [bu.o,VZ])
 generalize h1:gJ b l ⟨k,0⟩=s1
 simp(disch:=omega) [bC,bu.o,VZ]
 by_cases g:s1.2.er=0
 ·simp(disch:=omega) [g,b9,bu.o,VZ]
 ·simp(disch:=omega) [g,b9,GZ,VZ]
abbrev qM:Nat:=25
def pE:AF:=⟨3,5,[.cell 6 5 true, .tmp 7, .tmp 8],(.seq (.ops [.i (.lbox 3 (.s 0)), .i (.lal 6 [.int .i64 0, .int .i64 0, .nils, .int .i64 0, .nils]), .i (.mov 7 (qi 0)), .i (.mov 8 (qi 0))]) (.seq (.ops [ql 9 3 3 5 true,qm 10 1,qm 11 2, .i (.call 13 101 false [(.s 9),(.s 10),(.s 11),(.c (.val false [.fn 102]))]), .i (.ext 13 (.s 12) 0), .i (.ext 14 (.s 12) 1), .i (.ext 15 (.s 12) 2),qs 6 6 13 5,qm 7 14,qm 8 15]) .ret))⟩
theorem Bi:cd qM=some pE:=by kernel_rfl
theorem zL (b:Bytes) (l:ah) (k:Nat) (hok:l.ok=true) (hk:k≤b.length) (hb:b.length≤1073741824):VC cd qM (aE [(true,l.c),(false,[.sl (bytes b)]),(false,[.int .i64 (k:Int)])]) (fun rs _=>rs=b9 (gJ b l ⟨k,0⟩).1.o GZ (gJ b l ⟨k,0⟩).2):=by
 refine aa Bi rfl ?_
 simp(disch:=omega) [pE,ah.c,VZ]
 have h0:=nR b l k hok hk hb
 generalize h1:gJ b l ⟨k,0⟩=s1 at h0⊢
 by_cases g:s1.2.er=0
 ·simp only[b9,if_pos g,bu.o]at h0⊢
  refine av (h0) ?_ (ha:=by first|rfl|(simp[ah.c,VY] <;>repeat' constructor))
  simp(disch:=omega) [VZ]
 ·simp only[b9,if_neg g,GZ]at h0⊢
  refine av (h0) ?_ (ha:=by first|rfl|(simp[ah.c,VY] <;>repeat' constructor))
  simp(disch:=omega) [VZ]
abbrev hO:Nat:=105
def hM:AF:=⟨4,6,[.cell 8 5 true, .tmp 9, .tmp 10],(.seq (.ops [.i (.lbox 4 (.s 0)), .i (.lal 8 [.int .i64 0, .int .i64 0, .nils, .nils, .nils]), .i (.mov 9 (qi 0)), .i (.mov 10 (qi 0))]) (.seq (.ops [.i (.lal 11 [.int .i64 0, .int .i64 0, .nils, .nils, .nils])]) (.seq (.seq (.ops [ql 14 4 4 5 true,qk 16 95 14, .i (.not 16 (.s 15))]) (.cond (.s 16) (.seq (.ops [ql 17 11 11 5 true,qs 8 8 17 5, .i (.mov 9 (qi 0)), .i (.mov 10 (qi 5))]) .ret) .skip)) (.seq (.ops [qm 18 1,qm 19 2, .i (.bld 20 [.nils, .int .i64 0, .int .i64 0] [(0,1,(.s 18)),(1,1,(.s 19))]), .i (.hbox 21 215 (.s 20)),qm 12 21]) (.seq (.ops [qm 22 3,ql 23 4 4 5 true,qm 24 12, .i (.clv 26 false (.s 22) [(.s 23),(.s 24)]), .i (.lal 13 [.int .i64 0, .int .i64 0, .nils, .nils, .nils]),qs 13 13 25 5]) (.seq (.seq (.ops [qm 26 12, .i (.nch 27 (.s 26)),qf 28 27 2, .i (.ldh 29 (.s 28) 1 false), .i (.bin 30 .neq (.s 29) (qi 0))]) (.cond (.s 30) (.seq (.ops [ql 31 11 11 5 true,qm 32 12, .i (.nch 33 (.s 32)),qf 34 33 2, .i (.ldh 35 (.s 34) 1 false),qs 8 8 31 5, .i (.mov 9 (qi 0)),qm 10 35]) .ret) .skip)) (.seq (.ops [ql 36 13 13 5 true,qm 37 12, .i (.nch 38 (.s 37)),qf 39 38 1, .i (.ldh 40 (.s 39) 1 false),qs 8 8 36 5,qm 9 40, .i (.mov 10 (qi 0))]) .ret)))))))⟩
theorem su:cd hO=some hM:=by kernel_rfl
theorem sy (b:Bytes) (l:ah) (k:Nat) (hok:l.ok=true) (hk:k≤b.length) (hb:b.length≤1073741824):VC cd hO (aE [(true,l.c),(false,[.sl (bytes b)]),(false,[.int .i64 (k:Int)]),(false,[.fn jI])]) (fun rs _=>rs=b9 (uI b l ⟨k,0⟩).1.o Rt (uI b l ⟨k,0⟩).2):=by
 have hr:Rd.wf b ⟨k,0⟩:=⟨hk,by simp⟩
 refine aa su rfl ?_
 simp(disch:=omega) [hM,ah.c,VZ]
 refine av (ba l) ?_ (ha:=by first|rfl|(simp[ah.c,VY] <;>repeat' constructor))
 simp(disch:=omega) [hok,VZ]
 refine fK (dW b l ⟨k,0⟩ (fk hok).1 hr hb) ?_ (n1:=by simp(disch:=omega) [Qc.o,VZ]) (n3:=by simp(disch:=omega) [Qc.o,VZ])
 generalize h1:uI b l ⟨k,0⟩=s1
 simp(disch:=omega) [bC,Qc.o,VZ]
 by_cases g:s1.2.er=0
 ·simp(disch:=omega) [g,b9,Qc.o,VZ]
 ·simp(disch:=omega) [g,b9,Rt,VZ]
abbrev vq:Nat:=28
def vj:AF:=⟨3,5,[.cell 6 5 true, .tmp 7, .tmp 8],(.seq (.ops [.i (.lbox 3 (.s 0)), .i (.lal 6 [.int .i64 0, .int .i64 0, .nils, .nils, .nils]), .i (.mov 7 (qi 0)), .i (.mov 8 (qi 0))]) (.seq (.ops [ql 9 3 3 5 true,qm 10 1,qm 11 2, .i (.call 13 105 false [(.s 9),(.s 10),(.s 11),(.c (.val false [.fn 106]))]), .i (.ext 13 (.s 12) 0), .i (.ext 14 (.s 12) 1), .i (.ext 15 (.s 12) 2),qs 6 6 13 5,qm 7 14,qm 8 15]) .ret))⟩
theorem Gk:cd vq=some vj:=by kernel_rfl
theorem DL (b:Bytes) (l:ah) (k:Nat) (hok:l.ok=true) (hk:k≤b.length) (hb:b.length≤1073741824):VC cd vq (aE [(true,l.c),(false,[.sl (bytes b)]),(false,[.int .i64 (k:Int)])]) (fun rs _=>rs=b9 (uI b l ⟨k,0⟩).1.o Rt (uI b l ⟨k,0⟩).2):=by
 refine aa Gk rfl ?_
 simp(disch:=omega) [vj,ah.c,VZ]
 have h0:=sy b l k hok hk hb
 generalize h1:uI b l ⟨k,0⟩=s1 at h0⊢
 by_cases g:s1.2.er=0
 ·simp only[b9,if_pos g,Qc.o]at h0⊢
  refine av (h0) ?_ (ha:=by first|rfl|(simp[ah.c,VY] <;>repeat' constructor))
  simp(disch:=omega) [VZ]
 ·simp only[b9,if_neg g,Rt]at h0⊢
  refine av (h0) ?_ (ha:=by first|rfl|(simp[ah.c,VY] <;>repeat' constructor))
  simp(disch:=omega) [VZ]
abbrev fP:Nat:=110
def fQ:AF:=⟨4,6,[.cell 8 10 true, .tmp 9, .tmp 10],(.seq (.ops [.i (.lbox 4 (.s 0)), .i (.lal 8 qz), .i (.mov 9 (qi 0)), .i (.mov 10 (qi 0))]) (.seq (.ops [.i (.lal 11 qz)]) (.seq (.seq (.ops [ql 14 4 4 5 true,qk 16 95 14, .i (.not 16 (.s 15))]) (.cond (.s 16) (.seq (.ops [ql 17 11 11 10 true,qs 8 8 17 10, .i (.mov 9 (qi 0)), .i (.mov 10 (qi 5))]) .ret) .skip)) (.seq (.ops [qm 18 1,qm 19 2, .i (.bld 20 [.nils, .int .i64 0, .int .i64 0] [(0,1,(.s 18)),(1,1,(.s 19))]), .i (.hbox 21 215 (.s 20)),qm 12 21]) (.seq (.ops [qm 22 3,ql 23 4 4 5 true,qm 24 12, .i (.clv 26 false (.s 22) [(.s 23),(.s 24)]), .i (.lal 13 qz),qs 13 13 25 10]) (.seq (.seq (.ops [qm 26 12, .i (.nch 27 (.s 26)),qf 28 27 2, .i (.ldh 29 (.s 28) 1 false), .i (.bin 30 .neq (.s 29) (qi 0))]) (.cond (.s 30) (.seq (.ops [ql 31 11 11 10 true,qm 32 12, .i (.nch 33 (.s 32)),qf 34 33 2, .i (.ldh 35 (.s 34) 1 false),qs 8 8 31 10, .i (.mov 9 (qi 0)),qm 10 35]) .ret) .skip)) (.seq (.ops [ql 36 13 13 10 true,qm 37 12, .i (.nch 38 (.s 37)),qf 39 38 1, .i (.ldh 40 (.s 39) 1 false),qs 8 8 36 10,qm 9 40, .i (.mov 10 (qi 0))]) .ret)))))))⟩
theorem nL:cd fP=some fQ:=by kernel_rfl
theorem nM (b:Bytes) (l:ah) (k:Nat) (hok:l.ok=true) (hk:k≤b.length) (hb:b.length≤1073741824):VC cd fP (aE [(true,l.c),(false,[.sl (bytes b)]),(false,[.int .i64 (k:Int)]),(false,[.fn g9])]) (fun rs _=>rs=b9 (cV b l ⟨k,0⟩).1.o HX (cV b l ⟨k,0⟩).2):=by
 have hr:Rd.wf b ⟨k,0⟩:=⟨hk,by simp⟩
 refine aa nL rfl ?_
 simp(disch:=omega) [fQ,ah.c,VZ]
 refine av (ba l) ?_ (ha:=by first|rfl|(simp[ah.c,VY] <;>repeat' constructor))
 simp(disch:=omega) [hok,VZ]
 refine fK (gd b l ⟨k,0⟩ (fk hok).1 hr hb) ?_ (n1:=by simp(disch:=omega) [Head.o,VZ]) (n3:=by simp(disch:=omega) [Head.o,VZ])
 generalize h1:cV b l ⟨k,0⟩=s1
 simp(disch:=omega) [bC,Head.o,VZ]
 by_cases g:s1.2.er=0
 ·simp(disch:=omega) [g,b9,Head.o,VZ]
 ·simp(disch:=omega) [g,b9,HX,VZ]
abbrev pK:Nat:=31
def rD:AF:=⟨3,5,[.cell 6 10 true, .tmp 7, .tmp 8],(.seq (.ops [.i (.lbox 3 (.s 0)), .i (.lal 6 qz), .i (.mov 7 (qi 0)), .i (.mov 8 (qi 0))]) (.seq (.ops [ql 9 3 3 5 true,qm 10 1,qm 11 2, .i (.call 13 110 false [(.s 9),(.s 10),(.s 11),(.c (.val false [.fn 111]))]), .i (.ext 13 (.s 12) 0), .i (.ext 14 (.s 12) 1), .i (.ext 15 (.s 12) 2),qs 6 6 13 10,qm 7 14,qm 8 15]) .ret))⟩
theorem Cs:cd pK=some rD:=by kernel_rfl
theorem zj (b:Bytes) (l:ah) (k:Nat) (hok:l.ok=true) (hk:k≤b.length) (hb:b.length≤1073741824):VC cd pK (aE [(true,l.c),(false,[.sl (bytes b)]),(false,[.int .i64 (k:Int)])]) (fun rs _=>rs=b9 (cV b l ⟨k,0⟩).1.o HX (cV b l ⟨k,0⟩).2):=by
 refine aa Cs rfl ?_
 simp(disch:=omega) [rD,ah.c,VZ]
 have h0:=nM b l k hok hk hb
 generalize h1:cV b l ⟨k,0⟩=s1 at h0⊢
 by_cases g:s1.2.er=0
 ·simp only[b9,if_pos g,Head.o]at h0⊢
  refine av (h0) ?_ (ha:=by first|rfl|(simp[ah.c,VY] <;>repeat' constructor))
  simp(disch:=omega) [VZ]
 ·simp only[b9,if_neg g,HX]at h0⊢
  refine av (h0) ?_ (ha:=by first|rfl|(simp[ah.c,VY] <;>repeat' constructor))
  simp(disch:=omega) [VZ]
abbrev fB:Nat:=115
def fG:AF:=⟨4,6,[.cell 8 11 true, .tmp 9, .tmp 10],(.seq (.ops [.i (.lbox 4 (.s 0)), .i (.lal 8 [.int .i64 0, .int .i64 0, .int .i64 0, .nils, .nils, .int .i64 0, .int .i64 0, .nils, .nils, .nils, .nils]), .i (.mov 9 (qi 0)), .i (.mov 10 (qi 0))]) (.seq (.ops [.i (.lal 11 [.int .i64 0, .int .i64 0, .int .i64 0, .nils, .nils, .int .i64 0, .int .i64 0, .nils, .nils, .nils, .nils])]) (.seq (.seq (.ops [ql 14 4 4 5 true,qk 16 95 14, .i (.not 16 (.s 15))]) (.cond (.s 16) (.seq (.ops [ql 17 11 11 11 true,qs 8 8 17 11, .i (.mov 9 (qi 0)), .i (.mov 10 (qi 5))]) .ret) .skip)) (.seq (.ops [qm 18 1,qm 19 2, .i (.bld 20 [.nils, .int .i64 0, .int .i64 0] [(0,1,(.s 18)),(1,1,(.s 19))]), .i (.hbox 21 215 (.s 20)),qm 12 21]) (.seq (.ops [qm 22 3,ql 23 4 4 5 true,qm 24 12, .i (.clv 26 false (.s 22) [(.s 23),(.s 24)]), .i (.lal 13 [.int .i64 0, .int .i64 0, .int .i64 0, .nils, .nils, .int .i64 0, .int .i64 0, .nils, .nils, .nils, .nils]),qs 13 13 25 11]) (.seq (.seq (.ops [qm 26 12, .i (.nch 27 (.s 26)),qf 28 27 2, .i (.ldh 29 (.s 28) 1 false), .i (.bin 30 .neq (.s 29) (qi 0))]) (.cond (.s 30) (.seq (.ops [ql 31 11 11 11 true,qm 32 12, .i (.nch 33 (.s 32)),qf 34 33 2, .i (.ldh 35 (.s 34) 1 false),qs 8 8 31 11, .i (.mov 9 (qi 0)),qm 10 35]) .ret) .skip)) (.seq (.ops [ql 36 13 13 11 true,qm 37 12, .i (.nch 38 (.s 37)),qf 39 38 1, .i (.ldh 40 (.s 39) 1 false),qs 8 8 36 11,qm 9 40, .i (.mov 10 (qi 0))]) .ret)))))))⟩
theorem lI:cd fB=some fG:=by kernel_rfl
theorem lv (b:Bytes) (l:ah) (k:Nat) (hok:l.ok=true) (hk:k≤b.length) (hb:b.length≤1073741824):VC cd fB (aE [(true,l.c),(false,[.sl (bytes b)]),(false,[.int .i64 (k:Int)]),(false,[.fn gj])]) (fun rs _=>rs=b9 (dI b l ⟨k,0⟩).1.o Cr (dI b l ⟨k,0⟩).2):=by
 have hr:Rd.wf b ⟨k,0⟩:=⟨hk,by simp⟩
 refine aa lI rfl ?_
 simp(disch:=omega) [fG,ah.c,VZ]
 refine av (ba l) ?_ (ha:=by first|rfl|(simp[ah.c,VY] <;>repeat' constructor))
 simp(disch:=omega) [hok,VZ]
 refine fK (wh b l ⟨k,0⟩ (fk hok) hr hb) ?_ (n1:=by simp(disch:=omega) [Block.o,VZ]) (n3:=by simp(disch:=omega) [Block.o,VZ])
 generalize h1:dI b l ⟨k,0⟩=s1
 simp(disch:=omega) [bC,Block.o,VZ]
 by_cases g:s1.2.er=0
 ·simp(disch:=omega) [g,b9,Block.o,VZ]
 ·simp(disch:=omega) [g,b9,Cr,VZ]
abbrev mF:Nat:=35
def mg:AF:=⟨3,5,[.cell 6 11 true, .tmp 7, .tmp 8],(.seq (.ops [.i (.lbox 3 (.s 0)), .i (.lal 6 [.int .i64 0, .int .i64 0, .int .i64 0, .nils, .nils, .int .i64 0, .int .i64 0, .nils, .nils, .nils, .nils]), .i (.mov 7 (qi 0)), .i (.mov 8 (qi 0))]) (.seq (.ops [ql 9 3 3 5 true,qm 10 1,qm 11 2, .i (.call 13 115 false [(.s 9),(.s 10),(.s 11),(.c (.val false [.fn 116]))]), .i (.ext 13 (.s 12) 0), .i (.ext 14 (.s 12) 1), .i (.ext 15 (.s 12) 2),qs 6 6 13 11,qm 7 14,qm 8 15]) .ret))⟩
theorem zw:cd mF=some mg:=by kernel_rfl
theorem xX (b:Bytes) (l:ah) (k:Nat) (hok:l.ok=true) (hk:k≤b.length) (hb:b.length≤1073741824):VC cd mF (aE [(true,l.c),(false,[.sl (bytes b)]),(false,[.int .i64 (k:Int)])]) (fun rs _=>rs=b9 (dI b l ⟨k,0⟩).1.o Cr (dI b l ⟨k,0⟩).2):=by
 refine aa zw rfl ?_
 simp(disch:=omega) [mg,ah.c,VZ]
 have h0:=lv b l k hok hk hb
 generalize h1:dI b l ⟨k,0⟩=s1 at h0⊢
 by_cases g:s1.2.er=0
 ·simp only[b9,if_pos g,Block.o]at h0⊢
  refine av (h0) ?_ (ha:=by first|rfl|(simp[ah.c,VY] <;>repeat' constructor))
  simp(disch:=omega) [VZ]
 ·simp only[b9,if_neg g,Cr]at h0⊢
  refine av (h0) ?_ (ha:=by first|rfl|(simp[ah.c,VY] <;>repeat' constructor))
  simp(disch:=omega) [VZ]
abbrev hK:Nat:=118
def hQ:AF:=⟨4,6,[.cell 8 2 true, .tmp 9, .tmp 10],(.seq (.ops [.i (.lbox 4 (.s 0)), .i (.lal 8 [.int .i64 0, .nils]), .i (.mov 9 (qi 0)), .i (.mov 10 (qi 0))]) (.seq (.ops [.i (.lal 11 [.int .i64 0, .nils])]) (.seq (.seq (.ops [ql 14 4 4 5 true,qk 16 95 14, .i (.not 16 (.s 15))]) (.cond (.s 16) (.seq (.ops [ql 17 11 11 2 true,qs 8 8 17 2, .i (.mov 9 (qi 0)), .i (.mov 10 (qi 5))]) .ret) .skip)) (.seq (.ops [qm 18 1,qm 19 2, .i (.bld 20 [.nils, .int .i64 0, .int .i64 0] [(0,1,(.s 18)),(1,1,(.s 19))]), .i (.hbox 21 215 (.s 20)),qm 12 21]) (.seq (.ops [qm 22 3,ql 23 4 4 5 true,qm 24 12, .i (.clv 26 false (.s 22) [(.s 23),(.s 24)]), .i (.lal 13 [.int .i64 0, .nils]),qs 13 13 25 2]) (.seq (.seq (.ops [qm 26 12, .i (.nch 27 (.s 26)),qf 28 27 2, .i (.ldh 29 (.s 28) 1 false), .i (.bin 30 .neq (.s 29) (qi 0))]) (.cond (.s 30) (.seq (.ops [ql 31 11 11 2 true,qm 32 12, .i (.nch 33 (.s 32)),qf 34 33 2, .i (.ldh 35 (.s 34) 1 false),qs 8 8 31 2, .i (.mov 9 (qi 0)),qm 10 35]) .ret) .skip)) (.seq (.ops [ql 36 13 13 2 true,qm 37 12, .i (.nch 38 (.s 37)),qf 39 38 1, .i (.ldh 40 (.s 39) 1 false),qs 8 8 36 2,qm 9 40, .i (.mov 10 (qi 0))]) .ret)))))))⟩
theorem sn:cd hK=some hQ:=by kernel_rfl
theorem ss (b:Bytes) (l:ah) (k:Nat) (hok:l.ok=true) (hk:k≤b.length) (hb:b.length≤1073741824):VC cd hK (aE [(true,l.c),(false,[.sl (bytes b)]),(false,[.int .i64 (k:Int)]),(false,[.fn jG])]) (fun rs _=>rs=b9 (Fh b l ⟨k,0⟩).1.o Rh (Fh b l ⟨k,0⟩).2):=by
 have hr:Rd.wf b ⟨k,0⟩:=⟨hk,by simp⟩
 refine aa sn rfl ?_
 simp(disch:=omega) [hQ,ah.c,VZ]
 refine av (ba l) ?_ (ha:=by first|rfl|(simp[ah.c,VY] <;>repeat' constructor))
 simp(disch:=omega) [hok,VZ]
 refine fK (A0 b l ⟨k,0⟩ (fk hok) hr hb) ?_ (n1:=by simp(disch:=omega) [Tc.o,VZ]) (n3:=by simp(disch:=omega) [Tc.o,VZ])
 generalize h1:Fh b l ⟨k,0⟩=s1
 simp(disch:=omega) [bC,Tc.o,VZ]
 by_cases g:s1.2.er=0
 ·simp(disch:=omega) [g,b9,Tc.o,VZ]
 ·simp(disch:=omega) [g,b9,Rh,VZ]
abbrev vS:Nat:=38
def vz:AF:=⟨3,5,[.cell 6 2 true, .tmp 7, .tmp 8],(.seq (.ops [.i (.lbox 3 (.s 0)), .i (.lal 6 [.int .i64 0, .nils]), .i (.mov 7 (qi 0)), .i (.mov 8 (qi 0))]) (.seq (.ops [ql 9 3 3 5 true,qm 10 1,qm 11 2, .i (.call 13 118 false [(.s 9),(.s 10),(.s 11),(.c (.val false [.fn 119]))]), .i (.ext 13 (.s 12) 0), .i (.ext 14 (.s 12) 1), .i (.ext 15 (.s 12) 2),qs 6 6 13 2,qm 7 14,qm 8 15]) .ret))⟩
theorem EV:cd vS=some vz:=by kernel_rfl
theorem C3 (b:Bytes) (l:ah) (k:Nat) (hok:l.ok=true) (hk:k≤b.length) (hb:b.length≤1073741824):VC cd vS (aE [(true,l.c),(false,[.sl (bytes b)]),(false,[.int .i64 (k:Int)])]) (fun rs _=>rs=b9 (Fh b l ⟨k,0⟩).1.o Rh (Fh b l ⟨k,0⟩).2):=by
 refine aa EV rfl ?_
 simp(disch:=omega) [vz,ah.c,VZ]
 have h0:=ss b l k hok hk hb
 generalize h1:Fh b l ⟨k,0⟩=s1 at h0⊢
 by_cases g:s1.2.er=0
 ·simp only[b9,if_pos g,Tc.o]at h0⊢
  refine av (h0) ?_ (ha:=by first|rfl|(simp[ah.c,VY] <;>repeat' constructor))
  simp(disch:=omega) [VZ]
 ·simp only[b9,if_neg g,Rh]at h0⊢
  refine av (h0) ?_ (ha:=by first|rfl|(simp[ah.c,VY] <;>repeat' constructor))
  simp(disch:=omega) [VZ]
abbrev fH:Nat:=122
def fi:AF:=⟨4,6,[.cell 8 6 true, .tmp 9, .tmp 10],(.seq (.ops [.i (.lbox 4 (.s 0)), .i (.lal 8 [.nils, .int .i64 0, .int .i64 0, .nils, .nils, .nils]), .i (.mov 9 (qi 0)), .i (.mov 10 (qi 0))]) (.seq (.ops [.i (.lal 11 [.nils, .int .i64 0, .int .i64 0, .nils, .nils, .nils])]) (.seq (.seq (.ops [ql 14 4 4 5 true,qk 16 95 14, .i (.not 16 (.s 15))]) (.cond (.s 16) (.seq (.ops [ql 17 11 11 6 true,qs 8 8 17 6, .i (.mov 9 (qi 0)), .i (.mov 10 (qi 5))]) .ret) .skip)) (.seq (.ops [qm 18 1,qm 19 2, .i (.bld 20 [.nils, .int .i64 0, .int .i64 0] [(0,1,(.s 18)),(1,1,(.s 19))]), .i (.hbox 21 215 (.s 20)),qm 12 21]) (.seq (.ops [qm 22 3,ql 23 4 4 5 true,qm 24 12, .i (.clv 26 false (.s 22) [(.s 23),(.s 24)]), .i (.lal 13 [.nils, .int .i64 0, .int .i64 0, .nils, .nils, .nils]),qs 13 13 25 6]) (.seq (.seq (.ops [qm 26 12, .i (.nch 27 (.s 26)),qf 28 27 2, .i (.ldh 29 (.s 28) 1 false), .i (.bin 30 .neq (.s 29) (qi 0))]) (.cond (.s 30) (.seq (.ops [ql 31 11 11 6 true,qm 32 12, .i (.nch 33 (.s 32)),qf 34 33 2, .i (.ldh 35 (.s 34) 1 false),qs 8 8 31 6, .i (.mov 9 (qi 0)),qm 10 35]) .ret) .skip)) (.seq (.ops [ql 36 13 13 6 true,qm 37 12, .i (.nch 38 (.s 37)),qf 39 38 1, .i (.ldh 40 (.s 39) 1 false),qs 8 8 36 6,qm 9 40, .i (.mov 10 (qi 0))]) .ret)))))))⟩
theorem lO:cd fH=some fi:=by kernel_rfl
theorem lz (b:Bytes) (l:ah) (k:Nat) (hok:l.ok=true) (hk:k≤b.length) (hb:b.length≤1073741824):VC cd fH (aE [(true,l.c),(false,[.sl (bytes b)]),(false,[.int .i64 (k:Int)]),(false,[.fn fX])]) (fun rs _=>rs=b9 (dv b l ⟨k,0⟩).1.o Az (dv b l ⟨k,0⟩).2):=by
 have hr:Rd.wf b ⟨k,0⟩:=⟨hk,by simp⟩
 refine aa lO rfl ?_
 simp(disch:=omega) [fi,ah.c,VZ]
 refine av (ba l) ?_ (ha:=by first|rfl|(simp[ah.c,VY] <;>repeat' constructor))
 simp(disch:=omega) [hok,VZ]
 refine fK (wk b l ⟨k,0⟩ (fk hok) hr hb) ?_ (n1:=by simp(disch:=omega) [Proof.o,VZ]) (n3:=by simp(disch:=omega) [Proof.o,VZ])
 generalize h1:dv b l ⟨k,0⟩=s1
 simp(disch:=omega) [bC,Proof.o,VZ]
 by_cases g:s1.2.er=0
 ·simp(disch:=omega) [g,b9,Proof.o,VZ]
 ·simp(disch:=omega) [g,b9,Az,VZ]
abbrev mB:Nat:=41
def mZ:AF:=⟨3,5,[.cell 6 6 true, .tmp 7, .tmp 8],(.seq (.ops [.i (.lbox 3 (.s 0)), .i (.lal 6 [.nils, .int .i64 0, .int .i64 0, .nils, .nils, .nils]), .i (.mov 7 (qi 0)), .i (.mov 8 (qi 0))]) (.seq (.ops [ql 9 3 3 5 true,qm 10 1,qm 11 2, .i (.call 13 122 false [(.s 9),(.s 10),(.s 11),(.c (.val false [.fn 123]))]), .i (.ext 13 (.s 12) 0), .i (.ext 14 (.s 12) 1), .i (.ext 15 (.s 12) 2),qs 6 6 13 6,qm 7 14,qm 8 15]) .ret))⟩
theorem yW:cd mB=some mZ:=by kernel_rfl
theorem xZ (b:Bytes) (l:ah) (k:Nat) (hok:l.ok=true) (hk:k≤b.length) (hb:b.length≤1073741824):VC cd mB (aE [(true,l.c),(false,[.sl (bytes b)]),(false,[.int .i64 (k:Int)])]) (fun rs _=>rs=b9 (dv b l ⟨k,0⟩).1.o Az (dv b l ⟨k,0⟩).2):=by
 refine aa yW rfl ?_
 simp(disch:=omega) [mZ,ah.c,VZ]
 have h0:=lz b l k hok hk hb
 generalize h1:dv b l ⟨k,0⟩=s1 at h0⊢
 by_cases g:s1.2.er=0
 ·simp only[b9,if_pos g,Proof.o]at h0⊢
  refine av (h0) ?_ (ha:=by first|rfl|(simp[ah.c,VY] <;>repeat' constructor))
  simp(disch:=omega) [VZ]
 ·simp only[b9,if_neg g,Az]at h0⊢
  refine av (h0) ?_ (ha:=by first|rfl|(simp[ah.c,VY] <;>repeat' constructor))
  simp(disch:=omega) [VZ]
abbrev fL:Nat:=126
def fO:AF:=⟨4,6,[.cell 8 5 true, .tmp 9, .tmp 10],(.seq (.ops [.i (.lbox 4 (.s 0)), .i (.lal 8 [.int .i64 0, .int .i64 0, .int .i64 0, .nils, .nils]), .i (.mov 9 (qi 0)), .i (.mov 10 (qi 0))]) (.seq (.ops [.i (.lal 11 [.int .i64 0, .int .i64 0, .int .i64 0, .nils, .nils])]) (.seq (.seq (.ops [ql 14 4 4 5 true,qk 16 95 14, .i (.not 16 (.s 15))]) (.cond (.s 16) (.seq (.ops [ql 17 11 11 5 true,qs 8 8 17 5, .i (.mov 9 (qi 0)), .i (.mov 10 (qi 5))]) .ret) .skip)) (.seq (.ops [qm 18 1,qm 19 2, .i (.bld 20 [.nils, .int .i64 0, .int .i64 0] [(0,1,(.s 18)),(1,1,(.s 19))]), .i (.hbox 21 215 (.s 20)),qm 12 21]) (.seq (.ops [qm 22 3,ql 23 4 4 5 true,qm 24 12, .i (.clv 26 false (.s 22) [(.s 23),(.s 24)]), .i (.lal 13 [.int .i64 0, .int .i64 0, .int .i64 0, .nils, .nils]),qs 13 13 25 5]) (.seq (.seq (.ops [qm 26 12, .i (.nch 27 (.s 26)),qf 28 27 2, .i (.ldh 29 (.s 28) 1 false), .i (.bin 30 .neq (.s 29) (qi 0))]) (.cond (.s 30) (.seq (.ops [ql 31 11 11 5 true,qm 32 12, .i (.nch 33 (.s 32)),qf 34 33 2, .i (.ldh 35 (.s 34) 1 false),qs 8 8 31 5, .i (.mov 9 (qi 0)),qm 10 35]) .ret) .skip)) (.seq (.ops [ql 36 13 13 5 true,qm 37 12, .i (.nch 38 (.s 37)),qf 39 38 1, .i (.ldh 40 (.s 39) 1 false),qs 8 8 36 5,qm 9 40, .i (.mov 10 (qi 0))]) .ret)))))))⟩
theorem nS:cd fL=some fO:=by kernel_rfl
theorem nP (b:Bytes) (l:ah) (k:Nat) (hok:l.ok=true) (hk:k≤b.length) (hb:b.length≤1073741824):VC cd fL (aE [(true,l.c),(false,[.sl (bytes b)]),(false,[.int .i64 (k:Int)]),(false,[.fn gS])]) (fun rs _=>rs=b9 (fu b l ⟨k,0⟩).1.o Hr (fu b l ⟨k,0⟩).2):=by
 have hr:Rd.wf b ⟨k,0⟩:=⟨hk,by simp⟩
 refine aa nS rfl ?_
 simp(disch:=omega) [fO,ah.c,VZ]
 refine av (ba l) ?_ (ha:=by first|rfl|(simp[ah.c,VY] <;>repeat' constructor))
 simp(disch:=omega) [hok,VZ]
 refine fK (xM b l ⟨k,0⟩ (fk hok) hr hb) ?_ (n1:=by simp(disch:=omega) [bo.o,VZ]) (n3:=by simp(disch:=omega) [bo.o,VZ])
 generalize h1:fu b l ⟨k,0⟩=s1
 simp(disch:=omega) [bC,bo.o,VZ]
 by_cases g:s1.2.er=0
 ·simp(disch:=omega) [g,b9,bo.o,VZ]
 ·simp(disch:=omega) [g,b9,Hr,VZ]
abbrev ou:Nat:=44
def ru:AF:=⟨3,5,[.cell 6 5 true, .tmp 7, .tmp 8],(.seq (.ops [.i (.lbox 3 (.s 0)), .i (.lal 6 [.int .i64 0, .int .i64 0, .int .i64 0, .nils, .nils]), .i (.mov 7 (qi 0)), .i (.mov 8 (qi 0))]) (.seq (.ops [ql 9 3 3 5 true,qm 10 1,qm 11 2, .i (.call 13 126 false [(.s 9),(.s 10),(.s 11),(.c (.val false [.fn 127]))]), .i (.ext 13 (.s 12) 0), .i (.ext 14 (.s 12) 1), .i (.ext 15 (.s 12) 2),qs 6 6 13 5,qm 7 14,qm 8 15]) .ret))⟩
theorem AL:cd ou=some ru:=by kernel_rfl
theorem y6 (b:Bytes) (l:ah) (k:Nat) (hok:l.ok=true) (hk:k≤b.length) (hb:b.length≤1073741824):VC cd ou (aE [(true,l.c),(false,[.sl (bytes b)]),(false,[.int .i64 (k:Int)])]) (fun rs _=>rs=b9 (fu b l ⟨k,0⟩).1.o Hr (fu b l ⟨k,0⟩).2):=by
 refine aa AL rfl ?_
 simp(disch:=omega) [ru,ah.c,VZ]
 have h0:=nP b l k hok hk hb
 generalize h1:fu b l ⟨k,0⟩=s1 at h0⊢
 by_cases g:s1.2.er=0
 ·simp only[b9,if_pos g,bo.o]at h0⊢
  refine av (h0) ?_ (ha:=by first|rfl|(simp[ah.c,VY] <;>repeat' constructor))
  simp(disch:=omega) [VZ]
 ·simp only[b9,if_neg g,Hr]at h0⊢
  refine av (h0) ?_ (ha:=by first|rfl|(simp[ah.c,VY] <;>repeat' constructor))
  simp(disch:=omega) [VZ]
end Go.Eng.F
namespace Go.Eng.F
def strs (l:List ByteArray):List (List D):=l.map fun s=> [.str s]
theorem LS (l:List ByteArray):(strs l).length=l.length:=by simp[strs]
theorem LP {l:List ByteArray} {i:Nat} (h:i < l.length):(strs l)[i]? =some [.str l[i]]:=by simp[strs,h]
abbrev ud:Nat:=132
def tD:AF:=⟨2,4,[.tmp 4],(.seq (.ops [.i (.mov 4 (.c (.val false [.str ByteArray.empty])))]) (.seq (.seq (.ops [qm 5 0,qm 6 1,qn 7 6, .i (.bin 8 .sub (.s 7) (qi 1)), .i (.call 10 158 false [(.s 5),(qi 0),(.s 8)]), .i (.not 10 (.s 9))]) (.cond (.s 10) (.seq (.ops [.i (.mov 4 (.c (.val false [.str ByteArray.empty])))]) .ret) .skip)) (.seq (.ops [qm 11 1,qm 12 0, .i (.iad 13 (.s 11) (.s 12) 1), .i (.ldh 14 (.s 13) 1 false),qm 4 14]) .ret)))⟩
theorem C1:cd ud=some tD:=by kernel_rfl
theorem J8 (l:List ByteArray) (k:Nat) (hl:l.length≤1000):VC cd ud (aE [(false,[.int .i64 (k:Int)]),(false,[.sl (strs l)])]) (fun rs _=>rs= [(false,[.p (.str ((l[k]?).getD ByteArray.empty))])]):=by
 refine aa C1 rfl ?_
 simp(disch:=omega) [tD,LS,VY]
 refine av (bq (k:Int) 0 ((l.length:Int) - 1)) ?_
 simp(disch:=omega) [cf,VY]
 by_cases h:k < l.length
 ·have h1:(k:Int)≤(l.length:Int) - 1:=by omega
  simp(disch:=omega) [h1,LP h,h,VY]
 ·have h1:¬(k:Int)≤(l.length:Int) - 1:=by omega
  simp(disch:=omega) [h1,h,VY]
def kinds:List ByteArray:= [ByteArray.empty,⟨#[118,111,116,101]⟩,⟨#[113,99]⟩,⟨#[104,101,97,100]⟩,⟨#[98,108,111,99,107]⟩,⟨#[116,99]⟩,⟨#[112,114,111,111,102]⟩,⟨#[105,110,99,108]⟩]
def kindName (k:Nat):ByteArray:=(kinds[k]?).getD ByteArray.empty
abbrev nF:Nat:=55
def mJ:AF:=⟨1,3,[.tmp 2],(.seq (.ops [.i (.mov 2 (.c (.val false [.str ByteArray.empty])))]) (.seq (.ops [qm 3 0, .i (.bsl 4 9 1 8 [.str ByteArray.empty] [(0,1,(.c (.val false [.str ByteArray.empty]))),(1,1,(.c (.val false [.str ⟨#[118,111,116,101]⟩]))),(2,1,(.c (.val false [.str ⟨#[113,99]⟩]))),(3,1,(.c (.val false [.str ⟨#[104,101,97,100]⟩]))),(4,1,(.c (.val false [.str ⟨#[98,108,111,99,107]⟩]))),(5,1,(.c (.val false [.str ⟨#[116,99]⟩]))),(6,1,(.c (.val false [.str ⟨#[112,114,111,111,102]⟩]))),(7,1,(.c (.val false [.str ⟨#[105,110,99,108]⟩])))]), .i (.call 6 132 false [(.s 3),(.s 4)]),qm 2 5]) .ret))⟩
theorem zp:cd nF=some mJ:=by kernel_rfl
theorem G4 (k:Nat):VC cd nF (aE [(false,[.int .i64 (k:Int)])]) (fun rs _=>rs= [(false,[.p (.str (kindName k))])]):=by
 refine aa zp rfl ?_
 simp(disch:=omega) [mJ,VY]
 refine av (J8 kinds k (by simp[kinds])) ?_
 simp(disch:=omega) [kindName,VY]
theorem oc (k:Nat):kindName k=ByteArray.empty↔k=0∨8≤k:=by
 by_cases h:8≤k
 ·have:kindName k=ByteArray.empty:=by
   unfold kindName
   rw[List.getElem?_eq_none (by simp[kinds];omega)]
   rfl
  exact⟨fun _=> .inr h,fun _=>this⟩
 ·have ne:∀s:ByteArray,s.size≠0→s≠ByteArray.empty:=fun s h1 h2=>h1 (by rw[h2];rfl)
  have hk:k=0∨k=1∨k=2∨k=3∨k=4∨k=5∨k=6∨k=7:=by omega
  rcases hk with rfl|rfl|rfl|rfl|rfl|rfl|rfl|rfl
  ·exact⟨fun _=> .inl rfl,fun _=>rfl⟩
  all_goals exact⟨fun e=>absurd e (ne _ (by decide)),fun e=>by omega⟩
end Go.Eng.F
namespace Go.Eng.F
def aW.o (m:aW):List E:= [.p (.int .i64 m.kind), .p (.int .i64 m.vote.view), .p (.int .i64 m.vote.height), .o true (some (5,1)) (bytes m.vote.block), .p (.int .i64 m.vote.who), .o true (some (5,1)) (bytes m.vote.tag), .p (.int .i64 m.qc.view), .p (.int .i64 m.qc.height), .o true (some (5,1)) (bytes m.qc.block), .o true (some (5,1)) (bytes m.qc.bits), .o true (some (22,1)) (bH m.qc.tags), .p (.int .i64 m.head.view), .p (.int .i64 m.head.height), .p (.int .i64 m.head.proposer), .o true (some (5,1)) (bytes m.head.parent), .o true (some (5,1)) (bytes m.head.root), .p (.int .i64 m.head.qc.view), .p (.int .i64 m.head.qc.height), .o true (some (5,1)) (bytes m.head.qc.block), .o true (some (5,1)) (bytes m.head.qc.bits), .o true (some (22,1)) (bH m.head.qc.tags), .p (.int .i64 m.block.head.view), .p (.int .i64 m.block.head.height), .p (.int .i64 m.block.head.proposer), .o true (some (5,1)) (bytes m.block.head.parent), .o true (some (5,1)) (bytes m.block.head.root), .p (.int .i64 m.block.head.qc.view), .p (.int .i64 m.block.head.qc.height), .o true (some (5,1)) (bytes m.block.head.qc.block), .o true (some (5,1)) (bytes m.block.head.qc.bits), .o true (some (22,1)) (bH m.block.head.qc.tags), .o true (some (22,1)) (bH m.block.txs), .p (.int .i64 m.tc.view), .o true (some (165,3)) (lU m.tc.entries), .o true (some (45,10)) (f6 m.proof.heads), .p (.int .i64 m.proof.qc.view), .p (.int .i64 m.proof.qc.height), .o true (some (5,1)) (bytes m.proof.qc.block), .o true (some (5,1)) (bytes m.proof.qc.bits), .o true (some (22,1)) (bH m.proof.qc.tags), .p (.int .i64 m.incl.height), .p (.int .i64 m.incl.n), .p (.int .i64 m.incl.idx), .o true (some (5,1)) (bytes m.incl.tx), .o true (some (22,1)) (bH m.incl.path)]
def eP (b:Bytes) (m:aW) (r:Rd):aW×Nat:=if r.er≠0 then(au,r.er)else if r.at_≠b.length then(au,9)else(m,0)
def kO (l:ah) (b:Bytes):Nat→aW×Nat
 |1=>eP b {au with kind:=1,vote:=(gJ b l ⟨1,0⟩).1} (gJ b l ⟨1,0⟩).2
 |2=>eP b {au with kind:=2,qc:=(uI b l ⟨1,0⟩).1} (uI b l ⟨1,0⟩).2
 |3=>eP b {au with kind:=3,head:=(cV b l ⟨1,0⟩).1} (cV b l ⟨1,0⟩).2
 |4=>eP b {au with kind:=4,block:=(dI b l ⟨1,0⟩).1} (dI b l ⟨1,0⟩).2
 |5=>eP b {au with kind:=5,tc:=(Fh b l ⟨1,0⟩).1} (Fh b l ⟨1,0⟩).2
 |6=>eP b {au with kind:=6,proof:=(dv b l ⟨1,0⟩).1} (dv b l ⟨1,0⟩).2
 |7=>eP b {au with kind:=7,incl:=(fu b l ⟨1,0⟩).1} (fu b l ⟨1,0⟩).2
 |_=>(au,8)
def dec (l:ah) (b:Bytes):aW×Nat:=if l.ok=true then(match b[0]? with|none=>(au,1)|some c=>kO l b c.toNat)else(au,5)
theorem J0 {l:ah} {b:Bytes} {k:Nat} (h:k=0∨8≤k):kO l b k=(au,8):=by
 unfold kO
 split <;>first|omega|rfl
theorem Js {l:ah} {b:Bytes} (h:¬l.ok=true):dec l b=(au,5):=by simp[dec,h]
theorem Em {l:ah} {b:Bytes} (h:l.ok=true) (hc:¬0 < b.length):dec l b=(au,1):=by
 have:b[0]? =none:=List.getElem?_eq_none (by omega)
 simp[dec,h,this]
theorem OZ {l:ah} {b:Bytes} (h:l.ok=true) (hc:0 < b.length):dec l b=kO l b b[0].toNat:=by
 have:b[0]? =some b[0]:=List.getElem?_eq_getElem hc
 simp[dec,h,this]
def gF (x:aW×Nat):List (Bool×List E):= [(true,x.1.o),(false,[.p (.int .i64 (x.2:Int))])]
theorem aY:bH []= []:=rfl
theorem aZ:lU []= []:=rfl
theorem aX:f6 []= []:=rfl
abbrev sR:Nat:=53
def sZ:AF:=⟨2,7,[.cell 4 45 true, .tmp 5],(.seq (.ops [.i (.lbox 2 (.s 0)), .i (.lal 4 [.int .i64 0, .int .i64 0, .int .i64 0, .nils, .int .i64 0, .nils, .int .i64 0, .int .i64 0, .nils, .nils, .nils, .int .i64 0, .int .i64 0, .int .i64 0, .nils, .nils, .int .i64 0, .int .i64 0, .nils, .nils, .nils, .int .i64 0, .int .i64 0, .int .i64 0, .nils, .nils, .int .i64 0, .int .i64 0, .nils, .nils, .nils, .nils, .int .i64 0, .nils, .nils, .int .i64 0, .int .i64 0, .nils, .nils, .nils, .int .i64 0, .int .i64 0, .int .i64 0, .nils, .nils]), .i (.mov 5 (qi 0))]) (.seq (.block 0 (.seq (.ops [ql 10 2 2 5 true,qk 12 95 10, .i (.not 12 (.s 11)),qm 9 12]) (.cond (.s 9) (.seq (.ops [.i (.bld 13 [.int .i64 0, .int .i64 0, .int .i64 0, .nils, .int .i64 0, .nils, .int .i64 0, .int .i64 0, .nils, .nils, .nils, .int .i64 0, .int .i64 0, .int .i64 0, .nils, .nils, .int .i64 0, .int .i64 0, .nils, .nils, .nils, .int .i64 0, .int .i64 0, .int .i64 0, .nils, .nils, .int .i64 0, .int .i64 0, .nils, .nils, .nils, .nils, .int .i64 0, .nils, .nils, .int .i64 0, .int .i64 0, .nils, .nils, .nils, .int .i64 0, .int .i64 0, .int .i64 0, .nils, .nils] []),qs 4 4 13 45, .i (.mov 5 (qi 5))]) .ret) (.seq (.ops [qm 15 1,qn 16 15, .i (.bin 17 .eql (.s 16) (qi 0)),qm 14 17]) (.cond (.s 14) (.seq (.ops [.i (.bld 18 [.int .i64 0, .int .i64 0, .int .i64 0, .nils, .int .i64 0, .nils, .int .i64 0, .int .i64 0, .nils, .nils, .nils, .int .i64 0, .int .i64 0, .int .i64 0, .nils, .nils, .int .i64 0, .int .i64 0, .nils, .nils, .nils, .int .i64 0, .int .i64 0, .int .i64 0, .nils, .nils, .int .i64 0, .int .i64 0, .nils, .nils, .nils, .nils, .int .i64 0, .nils, .nils, .int .i64 0, .int .i64 0, .nils, .nils, .nils, .int .i64 0, .int .i64 0, .int .i64 0, .nils, .nils] []),qs 4 4 18 45, .i (.mov 5 (qi 1))]) .ret) (.seq (.ops [qm 20 1, .i (.iad 21 (.s 20) (qi 0) 1), .i (.ldh 22 (.s 21) 1 false), .i (.cvi 23 .i64 (.s 22)),qk 25 55 23, .i (.bin 25 .eql (.s 24) (.c (.val false [.str ByteArray.empty]))),qm 19 25]) (.cond (.s 19) (.seq (.ops [.i (.bld 26 [.int .i64 0, .int .i64 0, .int .i64 0, .nils, .int .i64 0, .nils, .int .i64 0, .int .i64 0, .nils, .nils, .nils, .int .i64 0, .int .i64 0, .int .i64 0, .nils, .nils, .int .i64 0, .int .i64 0, .nils, .nils, .nils, .int .i64 0, .int .i64 0, .int .i64 0, .nils, .nils, .int .i64 0, .int .i64 0, .nils, .nils, .nils, .nils, .int .i64 0, .nils, .nils, .int .i64 0, .int .i64 0, .nils, .nils, .nils, .int .i64 0, .int .i64 0, .int .i64 0, .nils, .nils] []),qs 4 4 26 45, .i (.mov 5 (qi 8))]) .ret) .skip))))))) (.seq (.ops [qm 27 1, .i (.iad 28 (.s 27) (qi 0) 1), .i (.ldh 29 (.s 28) 1 false), .i (.cvi 30 .i64 (.s 29)), .i (.bld 31 [.int .i64 0, .int .i64 0, .int .i64 0, .nils, .int .i64 0, .nils, .int .i64 0, .int .i64 0, .nils, .nils, .nils, .int .i64 0, .int .i64 0, .int .i64 0, .nils, .nils, .int .i64 0, .int .i64 0, .nils, .nils, .nils, .int .i64 0, .int .i64 0, .int .i64 0, .nils, .nils, .int .i64 0, .int .i64 0, .nils, .nils, .nils, .nils, .int .i64 0, .nils, .nils, .int .i64 0, .int .i64 0, .nils, .nils, .nils, .int .i64 0, .int .i64 0, .int .i64 0, .nils, .nils] [(0,1,(.s 30))]), .i (.lal 6 [.int .i64 0, .int .i64 0, .int .i64 0, .nils, .int .i64 0, .nils, .int .i64 0, .int .i64 0, .nils, .nils, .nils, .int .i64 0, .int .i64 0, .int .i64 0, .nils, .nils, .int .i64 0, .int .i64 0, .nils, .nils, .nils, .int .i64 0, .int .i64 0, .int .i64 0, .nils, .nils, .int .i64 0, .int .i64 0, .nils, .nils, .nils, .nils, .int .i64 0, .nils, .nils, .int .i64 0, .int .i64 0, .nils, .nils, .nils, .int .i64 0, .int .i64 0, .int .i64 0, .nils, .nils]),qs 6 6 31 45, .i (.mov 7 (qi 0)), .i (.mov 8 (qi 0))]) (.seq (.seq (.ops [qf 32 6 0,ql 33 6 32 1 false]) (.block 1 (.seq (.ops [.i (.bin 43 .eql (.s 33) (qi 1)),qm 42 43]) (.cond (.s 42) (.ops [ql 45 2 2 5 true,qm 46 1, .i (.call 48 25 false [(.s 45),(.s 46),(qi 1)]),qm 44 47, .i (.ext 48 (.s 44) 0), .i (.ext 49 (.s 44) 1), .i (.ext 50 (.s 44) 2),qf 51 6 1,qs 6 51 48 5,qm 7 49,qm 8 50]) (.seq (.ops [.i (.bin 53 .eql (.s 33) (qi 2)),qm 52 53]) (.cond (.s 52) (.ops [ql 55 2 2 5 true,qm 56 1, .i (.call 58 28 false [(.s 55),(.s 56),(qi 1)]),qm 54 57, .i (.ext 58 (.s 54) 0), .i (.ext 59 (.s 54) 1), .i (.ext 60 (.s 54) 2),qf 61 6 6,qs 6 61 58 5,qm 7 59,qm 8 60]) (.seq (.ops [.i (.bin 63 .eql (.s 33) (qi 3)),qm 62 63]) (.cond (.s 62) (.ops [ql 65 2 2 5 true,qm 66 1, .i (.call 68 31 false [(.s 65),(.s 66),(qi 1)]),qm 64 67, .i (.ext 68 (.s 64) 0), .i (.ext 69 (.s 64) 1), .i (.ext 70 (.s 64) 2),qf 71 6 11,qs 6 71 68 10,qm 7 69,qm 8 70]) (.seq (.ops [.i (.bin 73 .eql (.s 33) (qi 4)),qm 72 73]) (.cond (.s 72) (.ops [ql 75 2 2 5 true,qm 76 1, .i (.call 78 35 false [(.s 75),(.s 76),(qi 1)]),qm 74 77, .i (.ext 78 (.s 74) 0), .i (.ext 79 (.s 74) 1), .i (.ext 80 (.s 74) 2),qf 81 6 21,qs 6 81 78 11,qm 7 79,qm 8 80]) (.seq (.ops [.i (.bin 83 .eql (.s 33) (qi 5)),qm 82 83]) (.cond (.s 82) (.ops [ql 85 2 2 5 true,qm 86 1, .i (.call 88 38 false [(.s 85),(.s 86),(qi 1)]),qm 84 87, .i (.ext 88 (.s 84) 0), .i (.ext 89 (.s 84) 1), .i (.ext 90 (.s 84) 2),qf 91 6 32,qs 6 91 88 2,qm 7 89,qm 8 90]) (.seq (.ops [.i (.bin 93 .eql (.s 33) (qi 6)),qm 92 93]) (.cond (.s 92) (.ops [ql 95 2 2 5 true,qm 96 1, .i (.call 98 41 false [(.s 95),(.s 96),(qi 1)]),qm 94 97, .i (.ext 98 (.s 94) 0), .i (.ext 99 (.s 94) 1), .i (.ext 100 (.s 94) 2),qf 101 6 34,qs 6 101 98 6,qm 7 99,qm 8 100]) (.ops [ql 35 2 2 5 true,qm 36 1, .i (.call 38 44 false [(.s 35),(.s 36),(qi 1)]),qm 34 37, .i (.ext 38 (.s 34) 0), .i (.ext 39 (.s 34) 1), .i (.ext 40 (.s 34) 2),qf 41 6 40,qs 6 41 38 5,qm 7 39,qm 8 40]))))))))))))))) (.seq (.seq (.ops [qm 102 8, .i (.bin 103 .eql (.s 102) (qi 0)),qm 104 103, .g 104 true 106 (.mov 105 (.s 7)), .g 104 true 107 (.mov 106 (.s 1)), .g 104 true 108 (.len 107 false (.s 106)), .g 104 true 109 (.bin 108 .neq (.s 105) (.s 107)), .i (.pick 109 (.s 104) (.s 108) (qb false))]) (.cond (.s 109) (.ops [.i (.mov 8 (qi 9))]) .skip)) (.seq (.seq (.ops [qm 110 8, .i (.bin 111 .neq (.s 110) (qi 0))]) (.cond (.s 111) (.seq (.ops [.i (.bld 112 [.int .i64 0, .int .i64 0, .int .i64 0, .nils, .int .i64 0, .nils, .int .i64 0, .int .i64 0, .nils, .nils, .nils, .int .i64 0, .int .i64 0, .int .i64 0, .nils, .nils, .int .i64 0, .int .i64 0, .nils, .nils, .nils, .int .i64 0, .int .i64 0, .int .i64 0, .nils, .nils, .int .i64 0, .int .i64 0, .nils, .nils, .nils, .nils, .int .i64 0, .nils, .nils, .int .i64 0, .int .i64 0, .nils, .nils, .nils, .int .i64 0, .int .i64 0, .int .i64 0, .nils, .nils] []),qm 113 8,qs 4 4 112 45,qm 5 113]) .ret) .skip)) (.seq (.ops [ql 114 6 6 45 true,qs 4 4 114 45, .i (.mov 5 (qi 0))]) .ret)))))))⟩
theorem Dw:cd sR=some sZ:=by kernel_rfl
theorem BI (b:Bytes) (l:ah) (hb:b.length≤1073741824):VC cd sR (aE [(true,l.c),(false,[.sl (bytes b)])]) (fun rs _=>rs=gF (dec l b)):=by
 refine VC.lL ?_
 refine aa Dw rfl ?_
 simp(disch:=omega) [sZ,ah.c,VZ]
 refine av (ba l) ?_ (ha:=by first|rfl|(simp[ah.c,VY] <;>repeat' constructor))
 simp(disch:=omega) [VZ]
 by_cases hok:l.ok=true
 case neg=>rw[Js hok];simp(disch:=omega) [hok,gF,aW.o,au,bI,gm,bm,aF,iW,aK,bD,aG,aL,aR,ag,aY,aZ,aX,VZ]
 by_cases he:b= []
 case pos=>rw[Em hok (by simp[he])];simp(disch:=omega) [hok,he,gF,aW.o,au,bI,gm,bm,aF,iW,aK,bD,aG,aL,aR,ag,aY,aZ,aX,VZ]
 have hc:0 < b.length:=List.length_pos_iff.2 he
 have h256:b[0].toNat < 256:=UInt8.toNat_lt _
 rw[OZ hok hc]
 simp(disch:=omega) [hok,he,hc,bz hc,VZ]
 refine av (G4 b[0].toNat) ?_
 by_cases hz:b[0].toNat=0∨8≤b[0].toNat
 case pos=>
  have hz2:=(oc _).2 hz
  rw[J0 hz]
  simp(disch:=omega) [hz2,gF,aW.o,au,bI,gm,bm,aF,iW,aK,bD,aG,aL,aR,ag,aY,aZ,aX,VZ]
 have hz2:¬kindName b[0].toNat=ByteArray.empty:=fun e=>hz ((oc _).1 e)
 have hk:b[0].toNat=1∨b[0].toNat=2∨b[0].toNat=3∨b[0].toNat=4∨b[0].toNat=5∨b[0].toNat=6∨b[0].toNat=7:=by omega
 simp(disch:=omega) [hz2,hc,bz hc,VZ]
 generalize b[0].toNat=k at hk⊢
 clear hz hz2
 rcases hk with rfl|rfl|rfl|rfl|rfl|rfl|rfl
 ·simp only[kO]
  have h0:=zL b l 1 hok (by omega) hb
  generalize h1:gJ b l ⟨1,0⟩=s1 at h0⊢
  by_cases g:s1.2.er=0
  ·simp only[b9,if_pos g,bu.o]at h0
   simp(disch:=omega) [VZ]
   refine av (h0) ?_ (ha:=by first|rfl|(simp[ah.c,VY] <;>repeat' constructor))
   simp(disch:=omega) [VZ]
   by_cases g2:s1.2.at_=b.length
   ·simp(disch:=omega) [g2,eP,g,gF,aW.o,au,bI,gm,bm,aF,iW,aK,bD,aG,aL,aR,ag,aY,aZ,aX,VZ]
   ·have g3:¬(s1.2.at_:Int)=(b.length:Int):=by omega
    simp(disch:=omega) [g2,g3,eP,g,gF,aW.o,au,bI,gm,bm,aF,iW,aK,bD,aG,aL,aR,ag,aY,aZ,aX,VZ]
  ·simp only[b9,if_neg g,GZ]at h0
   simp(disch:=omega) [VZ]
   refine av (h0) ?_ (ha:=by first|rfl|(simp[ah.c,VY] <;>repeat' constructor))
   simp(disch:=omega) [g,eP,gF,aW.o,au,bI,gm,bm,aF,iW,aK,bD,aG,aL,aR,ag,aY,aZ,aX,VZ]
 ·simp only[kO]
  have h0:=DL b l 1 hok (by omega) hb
  generalize h1:uI b l ⟨1,0⟩=s1 at h0⊢
  by_cases g:s1.2.er=0
  ·simp only[b9,if_pos g,Qc.o]at h0
   simp(disch:=omega) [VZ]
   refine av (h0) ?_ (ha:=by first|rfl|(simp[ah.c,VY] <;>repeat' constructor))
   simp(disch:=omega) [VZ]
   by_cases g2:s1.2.at_=b.length
   ·simp(disch:=omega) [g2,eP,g,gF,aW.o,au,bI,gm,bm,aF,iW,aK,bD,aG,aL,aR,ag,aY,aZ,aX,VZ]
   ·have g3:¬(s1.2.at_:Int)=(b.length:Int):=by omega
    simp(disch:=omega) [g2,g3,eP,g,gF,aW.o,au,bI,gm,bm,aF,iW,aK,bD,aG,aL,aR,ag,aY,aZ,aX,VZ]
  ·simp only[b9,if_neg g,Rt]at h0
   simp(disch:=omega) [VZ]
   refine av (h0) ?_ (ha:=by first|rfl|(simp[ah.c,VY] <;>repeat' constructor))
   simp(disch:=omega) [g,eP,gF,aW.o,au,bI,gm,bm,aF,iW,aK,bD,aG,aL,aR,ag,aY,aZ,aX,VZ]
 ·simp only[kO]
  have h0:=zj b l 1 hok (by omega) hb
  generalize h1:cV b l ⟨1,0⟩=s1 at h0⊢
  by_cases g:s1.2.er=0
  ·simp only[b9,if_pos g,Head.o]at h0
   simp(disch:=omega) [VZ]
   refine av (h0) ?_ (ha:=by first|rfl|(simp[ah.c,VY] <;>repeat' constructor))
   simp(disch:=omega) [VZ]
   by_cases g2:s1.2.at_=b.length
   ·simp(disch:=omega) [g2,eP,g,gF,aW.o,au,bI,gm,bm,aF,iW,aK,bD,aG,aL,aR,ag,aY,aZ,aX,VZ]
   ·have g3:¬(s1.2.at_:Int)=(b.length:Int):=by omega
    simp(disch:=omega) [g2,g3,eP,g,gF,aW.o,au,bI,gm,bm,aF,iW,aK,bD,aG,aL,aR,ag,aY,aZ,aX,VZ]
  ·simp only[b9,if_neg g,HX]at h0
   simp(disch:=omega) [VZ]
   refine av (h0) ?_ (ha:=by first|rfl|(simp[ah.c,VY] <;>repeat' constructor))
   simp(disch:=omega) [g,eP,gF,aW.o,au,bI,gm,bm,aF,iW,aK,bD,aG,aL,aR,ag,aY,aZ,aX,VZ]
 ·simp only[kO]
  have h0:=xX b l 1 hok (by omega) hb
  generalize h1:dI b l ⟨1,0⟩=s1 at h0⊢
  by_cases g:s1.2.er=0
  ·simp only[b9,if_pos g,Block.o]at h0
   simp(disch:=omega) [VZ]
   refine av (h0) ?_ (ha:=by first|rfl|(simp[ah.c,VY] <;>repeat' constructor))
   simp(disch:=omega) [VZ]
   by_cases g2:s1.2.at_=b.length
   ·simp(disch:=omega) [g2,eP,g,gF,aW.o,au,bI,gm,bm,aF,iW,aK,bD,aG,aL,aR,ag,aY,aZ,aX,VZ]
   ·have g3:¬(s1.2.at_:Int)=(b.length:Int):=by omega
    simp(disch:=omega) [g2,g3,eP,g,gF,aW.o,au,bI,gm,bm,aF,iW,aK,bD,aG,aL,aR,ag,aY,aZ,aX,VZ]
  ·simp only[b9,if_neg g,Cr]at h0
   simp(disch:=omega) [VZ]
   refine av (h0) ?_ (ha:=by first|rfl|(simp[ah.c,VY] <;>repeat' constructor))
   simp(disch:=omega) [g,eP,gF,aW.o,au,bI,gm,bm,aF,iW,aK,bD,aG,aL,aR,ag,aY,aZ,aX,VZ]
 ·simp only[kO]
  have h0:=C3 b l 1 hok (by omega) hb
  generalize h1:Fh b l ⟨1,0⟩=s1 at h0⊢
  by_cases g:s1.2.er=0
  ·simp only[b9,if_pos g,Tc.o]at h0
   simp(disch:=omega) [VZ]
   refine av (h0) ?_ (ha:=by first|rfl|(simp[ah.c,VY] <;>repeat' constructor))
   simp(disch:=omega) [VZ]
   by_cases g2:s1.2.at_=b.length
   ·simp(disch:=omega) [g2,eP,g,gF,aW.o,au,bI,gm,bm,aF,iW,aK,bD,aG,aL,aR,ag,aY,aZ,aX,VZ]
   ·have g3:¬(s1.2.at_:Int)=(b.length:Int):=by omega
    simp(disch:=omega) [g2,g3,eP,g,gF,aW.o,au,bI,gm,bm,aF,iW,aK,bD,aG,aL,aR,ag,aY,aZ,aX,VZ]
  ·simp only[b9,if_neg g,Rh]at h0
   simp(disch:=omega) [VZ]
   refine av (h0) ?_ (ha:=by first|rfl|(simp[ah.c,VY] <;>repeat' constructor))
   simp(disch:=omega) [g,eP,gF,aW.o,au,bI,gm,bm,aF,iW,aK,bD,aG,aL,aR,ag,aY,aZ,aX,VZ]
 ·simp only[kO]
  have h0:=xZ b l 1 hok (by omega) hb
  generalize h1:dv b l ⟨1,0⟩=s1 at h0⊢
  by_cases g:s1.2.er=0
  ·simp only[b9,if_pos g,Proof.o]at h0
   simp(disch:=omega) [VZ]
   refine av (h0) ?_ (ha:=by first|rfl|(simp[ah.c,VY] <;>repeat' constructor))
   simp(disch:=omega) [VZ]
   by_cases g2:s1.2.at_=b.length
   ·simp(disch:=omega) [g2,eP,g,gF,aW.o,au,bI,gm,bm,aF,iW,aK,bD,aG,aL,aR,ag,aY,aZ,aX,VZ]
   ·have g3:¬(s1.2.at_:Int)=(b.length:Int):=by omega
    simp(disch:=omega) [g2,g3,eP,g,gF,aW.o,au,bI,gm,bm,aF,iW,aK,bD,aG,aL,aR,ag,aY,aZ,aX,VZ]
  ·simp only[b9,if_neg g,Az]at h0
   simp(disch:=omega) [VZ]
   refine av (h0) ?_ (ha:=by first|rfl|(simp[ah.c,VY] <;>repeat' constructor))
   simp(disch:=omega) [g,eP,gF,aW.o,au,bI,gm,bm,aF,iW,aK,bD,aG,aL,aR,ag,aY,aZ,aX,VZ]
 ·simp only[kO]
  have h0:=y6 b l 1 hok (by omega) hb
  generalize h1:fu b l ⟨1,0⟩=s1 at h0⊢
  by_cases g:s1.2.er=0
  ·simp only[b9,if_pos g,bo.o]at h0
   simp(disch:=omega) [VZ]
   refine av (h0) ?_ (ha:=by first|rfl|(simp[ah.c,VY] <;>repeat' constructor))
   simp(disch:=omega) [VZ]
   by_cases g2:s1.2.at_=b.length
   ·simp(disch:=omega) [g2,eP,g,gF,aW.o,au,bI,gm,bm,aF,iW,aK,bD,aG,aL,aR,ag,aY,aZ,aX,VZ]
   ·have g3:¬(s1.2.at_:Int)=(b.length:Int):=by omega
    simp(disch:=omega) [g2,g3,eP,g,gF,aW.o,au,bI,gm,bm,aF,iW,aK,bD,aG,aL,aR,ag,aY,aZ,aX,VZ]
  ·simp only[b9,if_neg g,Hr]at h0
   simp(disch:=omega) [VZ]
   refine av (h0) ?_ (ha:=by first|rfl|(simp[ah.c,VY] <;>repeat' constructor))
   simp(disch:=omega) [g,eP,gF,aW.o,au,bI,gm,bm,aF,iW,aK,bD,aG,aL,aR,ag,aY,aZ,aX,VZ]
end Go.Eng.F
