/- PrintAgain: of any text that is read as a formula, the text that is told of it is read as the same formula and told as it was. No conditions of its own. -/
import Derived.Test.YtikojelnedfmpaaGreatDoorE
set_option linter.unusedSimpArgs false
set_option linter.unusedVariables false
namespace Go.Proofs.YtikojelnedfmpaaGreatDoor
open Go Go.X
set_option maxRecDepth 1000000
noncomputable section
section
variable(Q:KQ)(I J K T B:KI)(a b c d e f g i j k l m n o p q r s t u v w x y z A C D E F G L M N O P R S U V W Y Z:Value)(h:H)
def kD:=aq (Q a h)
def dA:=aq (Q a h)
def jC:=aq (Q a h)
def e9:=aq (j0 d c (za 2 h a fun e=>zo 0 h a fun f=>zx 19 f d fun f=>za 19 h f fun f=>CP xc [e,f,b] h fun e h=>zx 1 b d fun f=>bW 1 h f e fun h=>zx 1 b d fun e=>zc h e fun e=>cF 9 h e fun e h=>rL e 300 (Q (.tuple ⟨[zs,(zi 9)]⟩) h) (cM d 1 fun d=>I [a,b,c,d] h)) (cF 48 h b fun a h=>oJ a 1 fun a=>zx 1 b a fun a=>zc h a fun a=>Q (.tuple ⟨[a,(zi 0)]⟩) h))
def iP:=aq (zo 1 h a fun d=>cF 23 h d fun d h=>j0 c d (zo 1 h a fun d=>zx 1 d c fun d=>zc h d fun d=>zo 1 h b fun e=>zx 1 e c fun e=>zc h e fun e=>Y' d e (Q zf h) (cM c 1 fun c=>I [a,b,c] h)) (Q zt h))
def iQ:=aq (zo 0 h a fun d=>cF 22 h d fun d h=>j0 c d (zo 0 h a fun d=>zx 19 d c fun d=>za 19 h d fun d=>zo 0 h b fun e=>zx 19 e c fun e=>za 19 h e fun e=>Bb .neq 53 d e (Q zf h) (cM c 1 fun c=>I [a,b,c] h)) (VL (iP Q) [a,b,(zi 0)] h))
def vl:=aq (aG c (Q zf h) (VL (iQ Q) [a,b,(zi 0)] h))
def By:=aq (CP Bx [a,c] h fun c h=>ze c 0 fun d=>ze c 1 fun e=>ze c 2 fun c=>cq h 44 [(zi 0),zs,(zi 0),zf,zs,zs] fun f h=>bW 6 h f d fun h=>tR .neq 26 c 0 (Q (.tuple ⟨[zn,e,c]⟩) h) (za 6 h f fun c=>gh EE h 34 1 [(0,c)] fun c h=>ir EE h #[34,34] b c fun b h=>zo 0 h f fun c=>bZ c 0 (Q (.tuple ⟨[b,(zi 0),(zi 0)]⟩) h) (I [a,b,e] h)))
def gI:=aq (CP bO [a] h fun a h=>bW 6 h b a fun h=>zr b 44 h Q MU)
def iM:=aq (j0 f e (zx 1 d f fun g=>zc h g fun g=>zc h b fun i=>zx 1 i g fun g=>zc h g fun g=>gh EE h 48 1 [(0,g)] fun g h=>ir EE h #[48,48] c g fun c h=>cM f 1 fun f=>I [a,b,c,d,e,f] h) (zp 7 a fun a=>zc h a fun b=>zb .add 9 b (.string (bs [40])) fun d=>CP nM [c,(.string (bs [44]))] h fun c h=>(aw h a)=some b∧af (X.binOp EE .add 9 d c) fun a=>zb .add 9 a (.string (bs [41])) fun a=>Q a h))
def gE:=aq (tR .neq 26 e 0 (lL 44 [] fun c=>bW 6 h b c fun h=>zr b 44 h Q (MZ a e)) (za 6 h c fun c=>oB a d fun a=>bW 6 h b c fun h=>zr b 44 h Q (MZ a (zi 0))))
def yY:=aq (aG f (lL 44 [] fun a=>bW 6 h c a fun h=>zr c 44 h Q (MZ (zi 0) (zi 2))) (CP sA [a,b,(.func (.func wW) ⟨[]⟩ ⟨[]⟩)] h fun f h=>oB b f fun b=>cF 9 h a fun f h=>AdT b f (lL 44 [(2,b)] fun a=>bW 6 h c a fun h=>zr c 44 h Q (MZ b (zi 0))) (zy a b fun f=>CP fG [f] h fun g h=>aG g (CP wX [a,b] h fun a h=>ze a 0 fun e=>ze a 1 fun f=>ze a 2 fun a=>bW 6 h d e fun h=>gE Q b c d f a h) (Bb .eql 5 f (zu 34) (CP Bw [a,b] h fun a h=>ze a 0 fun e=>ze a 1 fun f=>ze a 2 fun a=>bW 6 h d e fun h=>gE Q b c d f a h) (Bb .eql 5 f (zu 35) (CP yX [a,b] h fun a h=>ze a 0 fun e=>ze a 1 fun f=>ze a 2 fun a=>bW 6 h d e fun h=>gE Q b c d f a h) (CP sg [f] h fun f h=>aG f (CP sA [a,b,(.func (.func sg) ⟨[]⟩ ⟨[]⟩)] h fun f h=>oB b f fun g=>af (aO EE h 9 a (some b) (some g) none) fun a=>lL 42 [] fun g=>lL 44 [(0,(zi 3)),(1,a),(2,b),(3,g)] fun a=>bW 6 h d a fun h=>gE Q b c d f e h) (af (aO EE h 9 a (some b) none none) fun f=>CP Bv [f] h fun f h=>ze f 0 fun g=>ze f 1 fun f=>zp 0 d fun i=>bW 1 h i g fun h=>bZ f 0 (tR .neq 26 (zi 10) 0 (lL 44 [] fun a=>bW 6 h c a fun h=>zr c 44 h Q (MZ b (zi 10))) (za 6 h d fun a=>oB b f fun b=>bW 6 h c a fun h=>zr c 44 h Q (MZ b (zi 0)))) (oB b f fun g=>af (aO EE h 9 a (some b) (some g) none) fun a=>zp 1 d fun g=>bW 1 h g a fun h=>zp 2 d fun a=>bW 1 h a b fun h=>gE Q b c d f e h))))))))
def cj:=aq (PH e 0 (zc h a fun f=>CP bO [f] h fun f h=>DP c [] h fun f h=>zc h a fun g=>lL 53 [(0,(zi 8)),(1,e),(2,d),(3,f)] fun d=>CP bh [g,d] h fun d h=>zc h a fun e=>zc h b fun f=>CP fC [e,f] h fun e h=>I [a,b,c,d,e] h) (Q d h))
def gd:=aq (DP c [] h fun d h=>zc h a fun e=>zc h b fun f=>CP fC [e,f] h fun e h=>Y_ (cj Q) [a,b,c,d,e] h)
def gH:=aq (lL 44 [(0,(zi 0))] fun b=>gh EE h 34 1 [(0,b)] fun b h=>af (db a) fun a=>zp 0 a fun a=>bW 1 h a b fun h=>Q (zi 0) h)
def fY:=aq (za 6 h b fun b=>bW 6 h a b fun h=>zr a 44 h Q MU)
def vi:=aq (zr a 71 h Q (FX b))
def nS:=aq (Q (zi 8) h)
def pK:=aq (aG a (Q (zi 1) h) (nS Q h))
def pJ:=aq (aG c (Q (zi 4) h) (bZ b 5 (Q (zi 5) h) (bZ b 6 (Q (zi 2) h) (zo 1 h a fun b=>PG b 7 fun b=>aH b true (zo 1 h a fun a=>yg a 12 fun a=>pK Q a h) (pK Q zf h)))))
def pL:=aq (aG c (Q (zi 3) h) (tS b 3 fun c=>aG c (pJ Q a b c h) (tS b 4 fun c=>pJ Q a b c h)))
def pI:=aq (aG c (Q zs h) (af (ixP 15 1 b a) fun a=>zc h a fun a=>Q a h))
def kS:=aq (j0 e d (zx 1 c e fun f=>zc h f fun f=>CP aC [b,a] h fun g h=>CP aC [b,f] h fun f h=>cM e 1 fun e=>I [a,b,c,d,e] h) (CP aW [b] h fun a h=>Q a h))
def oY:=aq (j0 f e (zx 1 d f fun g=>zc h g fun g=>cF 9 h g fun i h=>M1 (zi 9223372036854775807) c fun j=>Aba i j (af (tC EE 9 (.string (bs [115,116,114,105,110,103,115,58,32,74,111,105,110,32,111,117,116,112,117,116,32,108,101,110,103,116,104,32,111,118,101,114,102,108,111,119]))) fun a=>False) (cF 9 h g fun g h=>oB c g fun c=>cM f 1 fun f=>I [a,b,c,d,e,f] h)) (cq h 92 [(.pointer none),zn] fun d h=>CP dN [d,c] h fun c h=>zx 1 a (zi 0) fun c=>zc h c fun c=>CP aC [d,c] h fun c h=>af (aO EE h 48 a (some (zi 1)) none none) fun a=>cF 48 h a fun c h=>Y_ (kS Q) [b,d,a,c,(zi 0)] h))
def kR:=aq (cF 48 h a fun d h=>zl6 (oY Q) [a,b,c,a,d,(zi 0)] h)
def tb:=aq (aG e (cM d 1 fun d=>I [a,b,c,d] h) (Q d h))
def Bu:=aq (oB b d fun e=>cF 9 h a fun f h=>zls e f fun e=>aH e true (oB b d fun e=>zy a e fun e=>DP c [e] h fun e h=>tb Q I a b c d e h) (tb Q I a b c d zf h))
end
section
variable(a b c d e f g i j k l m n o p q r s t u v w x y z A C D E F G L M N O P R S U V W Y Z:Value)(h:H)(Q:KQ)
def vV:=aq (CP mo [a] h fun a h=>ze a 0 fun b=>ze a 1 fun c=>ze a 2 fun a=>cq h 25 [zn,zn] fun c h=>bW 2 h c b fun h=>tR .neq 26 a 0 (CP gT [] h fun a h=>Q a h) (za 2 h c fun a=>CP e_ [a] h fun a h=>ze a 0 fun b=>ze a 1 fun a=>tR .neq 26 a 0 (PS .eql 26 a 9 fun a=>aH a true (CP gT [] h fun a h=>kD Q a h) (kD Q zf h)) (CP mo [b] h fun a h=>ze a 0 fun d=>ze a 1 fun e=>ze a 2 fun a=>cq h 25 [zn,zn] fun e h=>bW 2 h e d fun h=>za 2 h e fun d=>CP e_ [d] h fun d h=>ze d 0 fun f=>ze d 1 fun d=>za 2 h c fun c=>za 2 h e fun e=>CP xn [c,e] h fun c h=>aH c true (PS .eql 26 a 0 fun a=>aH a true (zb .eql 9 f b fun a=>aH a true (PS .eql 26 d 0 fun a=>aH a true (CP gT [] h fun a h=>dA Q a h) (dA Q zf h)) (dA Q zf h)) (dA Q zf h)) (dA Q zf h))))
def AU:=aq (cq h 25 [zn,zn] fun b h=>CP DT [a] h fun a h=>ze a 0 fun c=>ze a 1 fun d=>ze a 2 fun a=>tR .neq 26 a 0 (lL 25 [] fun c=>bW 2 h b c fun h=>zr b 25 h Q (MZ d a)) (lL 39 [(0,c)] fun a=>dW h 39 a fun a h=>CP cy [a] h fun c h=>CP cZ [a,(zi 0)] h fun c h=>af (db a) fun c=>zo 5 h c fun c=>tR .neq 26 c 0 (lL 25 [] fun c=>af (db a) fun d=>zp 4 d fun d=>zc h d fun e=>af (db a) fun a=>zp 5 a fun a=>zc h a fun f=>bW 2 h b c fun h=>(aw h a)=some f∧(aw h d)=some e∧af ((addrOf b).bind fun a=>(X.loadVar EE h 25 a).bind fun a=>(((some []).map (f :: ·)).map (e :: ·)).map (a :: ·)) fun a=>Q (cN a) h) (af (db a) fun a=>VN 1 2 h a fun a=>bW 2 h b a fun h=>zr b 25 h Q (MZ (zi 0) (zi 0)))))
def Ew:=aq (CP me [(.string (bs [40,40,49,41,43,50,41,42,83,85,77,40,65,49,32,58,32,98,33,99,44,32,51,37,41]))] h fun a h=>ze a 0 fun b=>ze a 1 fun c=>ze a 2 fun a=>cq h 25 [zn,zn] fun a h=>bW 2 h a b fun h=>CP me [(.string (bs [40,40,49,41,43,50,41,42,83,85,77,40,65,49,32,58,32,36,66,50,44,32,51,37,41]))] h fun b h=>ze b 0 fun c=>ze b 1 fun d=>ze b 2 fun b=>cq h 25 [zn,zn] fun b h=>bW 2 h b c fun h=>za 2 h b fun b=>CP e_ [b] h fun b h=>ze b 0 fun c=>ze b 1 fun b=>za 2 h a fun a=>CP e_ [a] h fun a h=>ze a 0 fun d=>ze a 1 fun a=>zb .eql 9 c (.string (bs [40,49,43,50,41,42,83,85,77,40,65,49,58,36,66,50,44,51,37,41])) fun c=>aH c true (PS .eql 26 b 0 fun b=>aH b true (PS .eql 26 a 3 fun a=>aH a true (CP lY [(.string (bs [97,34,98]))] h fun a h=>zb .eql 9 a (.string (bs [34,97,34,34,98,34])) fun a=>jC Q a h) (jC Q zf h)) (jC Q zf h)) (jC Q zf h))
def AX:=aq (dW h 25 a fun a h=>za 2 h a fun b=>CP zj [b] h fun b h=>tG b fun b=>aG b (Q (.tuple ⟨[zs,(zi 3)]⟩) h) (zo 0 h a fun b=>cF 22 h b fun b h=>af (vU EE h 48 b b) fun b=>zo 0 b.2 a fun c=>cF 22 b.2 c fun c h=>VM (e9 Q) [a,b.1,c,(zi 0)] h))
def HX:=aq (dW h 25 a fun a h=>dW h 25 b fun b h=>zo 0 h a fun c=>cF 22 h c fun c h=>zo 0 h b fun d=>cF 22 h d fun d h=>zne c d fun c=>aH c false (zo 1 h a fun c=>cF 23 h c fun c h=>zo 1 h b fun d=>cF 23 h d fun d h=>zne c d fun c=>vl Q a b c h) (vl Q a b zt h))
def Sd:=aq (cF 9 h a fun b h=>rL b 300 (Q (.tuple ⟨[zn,(zi 0),(zi 9)]⟩) h) (VL (By Q) [a,zn,(zi 0)] h))
def qD:=aq (CP gK [a,(zi 1)] h fun a h=>Q a h)
def uv:=aq (cq h 44 [(zi 0),zs,(zi 0),zf,zs,zs] fun c h=>CP cg [a,b] h fun b h=>tG b fun b=>aG b (af (db a) fun b=>zo 0 h b fun b=>zx 6 b (zi 0) fun b=>za 6 h b fun b=>CP bV [a,b,(zi 10)] h fun b h=>gI Q a c h) (gI Q a c h))
def E1:=aq (CP kz [a,(.string (bs [34])),(.string (bs [34,34]))] h fun a h=>zb .add 9 (.string (bs [34])) a fun a=>zb .add 9 a (.string (bs [34])) fun a=>Q a h)
def Kq:=aq (dW h 25 a fun a h=>za 2 h a fun a=>CP zh [a] h fun a h=>ze a 0 fun b=>ze a 1 fun a=>cq h 71 [(zi 0),(zi 0),(zi 0),(zi 0)] fun c h=>bW 4 h c b fun h=>Q a h)
def HM:=aq (dW h 25 a fun a h=>dW h 53 b fun b h=>dW h 48 c fun c h=>za 19 h b fun d=>CP ky [d] h fun d h=>zo 0 h b fun e=>bZ e 7 (zo 1 h b fun e=>bZ e 13 (zo 1 h b fun e=>CP gJ [e] h fun e f=>zp 2 b fun b=>zc f b fun g=>(aw h b)=some g∧DP (.func (.func eQ) ⟨[]⟩ ⟨[a,c]⟩) [g,d] f fun a h=>zb .add 9 e a fun a=>Q a h) (zo 2 h b fun e=>DP (.func (.func eQ) ⟨[]⟩ ⟨[a,c]⟩) [e,d] h fun a c=>zp 1 b fun b=>zc c b fun d=>(aw h b)=some d∧CP gJ [d] c fun b h=>zb .add 9 a b fun a=>Q a h)) (bZ e 8 (zo 2 h b fun e=>DP (.func (.func eQ) ⟨[]⟩ ⟨[a,c]⟩) [e,d] h fun e f=>zp 1 b fun g=>zc f g fun i=>(aw h g)=some i∧CP gJ [i] f fun g i=>zb .add 9 e g fun e=>zp 3 b fun b=>zc i b fun g=>(aw f b)=some g∧(aw h b)=some g∧af (X.binOp EE .add 3 d (zi 1)) fun b=>DP (.func (.func eQ) ⟨[]⟩ ⟨[a,c]⟩) [g,b] i fun a h=>zb .add 9 e a fun a=>Q a h) (bZ e 9 (zo 1 h a fun a=>zo 2 h b fun d=>zo 2 h b fun e=>zo 3 h b fun f=>oB e f fun e=>af (aO EE h 23 a (some d) (some e) none) fun a=>cF 23 h a fun d h=>zl6 (iM Q) [b,c,zn,a,d,(zi 0)] h) (za 19 h b fun a=>CP sk [a] h fun a h=>Q a h))))
def Oc:=aq (cq h 44 [(zi 0),zs,(zi 0),zf,zs,zs] fun c h=>cq h 44 [(zi 0),zs,(zi 0),zf,zs,zs] fun d h=>MT b 0 fun e=>aH e false (cF 9 h a fun e h=>zgt b e fun e=>yY Q a b c d (zi 0) e h) (yY Q a b c d (zi 0) zt h))
def th:=aq (dW h 37 a fun a h=>dW h 3 b fun b h=>zc h a fun c=>zc h b fun d=>Bc d 5 (gd Q a b (.func (.func jz) ⟨[]⟩ ⟨[a,b]⟩) h) (gd Q a b (.func (.func cP) ⟨[c]⟩ ⟨[]⟩) h))
def x4:=aq (af (db a) fun a=>zo 0 h a fun a=>zx 6 a (zi 0) fun a=>zo 0 h a fun a=>zeq a b fun a=>Q a h)
def uu:=aq (dW h 44 b fun b h=>af (db a) fun d=>zo 5 h d fun d=>tR .eql 26 d 0 (zo 2 h b fun b=>af (db a) fun d=>zp 4 d fun d=>bW 1 h d b fun h=>af (db a) fun b=>zp 5 b fun b=>bW 1 h b c fun h=>gH Q a h) (gH Q a h))
def ur:=aq (cq h 44 [(zi 0),zs,(zi 0),zf,zs,zs] fun b h=>af (db a) fun c=>zo 0 h c fun c=>zx 6 c (zi 0) fun c=>za 6 h c fun c=>cq h 44 [(zi 0),zs,(zi 0),zf,zs,zs] fun d h=>bW 6 h d c fun h=>zo 0 h d fun c=>PH c 0 (af (db a) fun c=>zo 0 h c fun c=>af (aO EE h 34 c (some (zi 1)) none none) fun c=>af (db a) fun a=>zp 0 a fun a=>bW 1 h a c fun h=>fY Q b d h) (fY Q b d h))
def tj:=aq (CP uI [a,b,c,(.int .i64 (-1))] h fun a h=>Q a h)
def Kp:=aq (dW h 25 a fun a h=>cq h 71 [(zi 0),(zi 0),(zi 0),(zi 0)] fun b h=>zo 0 h a fun c=>cF 22 h c fun c h=>rL c 300 (lL 71 [] fun a=>bW 4 h b a fun h=>zr b 71 h Q (FX zf)) (za 2 h a fun a=>CP zg [a] h fun a h=>ze a 0 fun c=>ze a 1 fun a=>cq h 71 [(zi 0),(zi 0),(zi 0),(zi 0)] fun d h=>bW 4 h d c fun h=>za 4 h d fun c=>aH a true (zp 3 d fun a=>zc h a fun d=>yg d 24 fun e=>bW 4 h b c fun h=>(aw h a)=some d∧vi Q b e h) (bW 4 h b c fun h=>vi Q b zf h)))
def CJ:=aq (zo 0 h c fun c=>zx 19 c a fun c=>za 19 h c fun c=>CP ky [c] h fun c h=>j0 c b (zc h d fun b=>zx 1 b a fun a=>zc h a fun a=>zb .add 9 (.string (bs [40])) a fun a=>zb .add 9 a (.string (bs [41])) fun a=>Q a h) (zc h d fun b=>zx 1 b a fun a=>zc h a fun a=>Q a h))
def Kh:=aq (dW h 53 a fun a h=>zo 0 h a fun b=>bZ b 7 (zo 1 h a fun a=>bZ a 13 (Q (zi 6) h) (bZ a 14 (Q (zi 7) h) (nS Q h))) (bZ b 8 (zo 1 h a fun b=>tS b 1 fun c=>aG c (pL Q a b c h) (tS b 2 fun c=>pL Q a b c h)) (nS Q h)))
def Hu:=aq (CP va [] h fun b h=>cq h 87 [zs,zs,zs,zs,zs,zs,zs,zs,zs,zs,zs,zs,zs,zs,zs] fun c h=>bW 15 h c b fun h=>MT a 0 fun b=>aH b false (PG a 15 fun b=>pI Q a c b h) (pI Q a c zt h))
def Cs:=aq (cF 48 h a fun c h=>bZ c 0 (Q zs h) (bZ c 1 (zx 1 a (zi 0) fun a=>zc h a fun a=>Q a h) (cF 9 h b fun c h=>rL c 0 (cF 9 h b fun c h=>cF 48 h a fun d h=>oJ d 1 fun d=>zb .quo 3 (zi 9223372036854775807) d fun d=>Aa9 c d (af (tC EE 9 (.string (bs [115,116,114,105,110,103,115,58,32,74,111,105,110,32,111,117,116,112,117,116,32,108,101,110,103,116,104,32,111,118,101,114,102,108,111,119]))) fun a=>False) (cF 9 h b fun c h=>cF 48 h a fun d h=>oJ d 1 fun d=>zb .mul 3 c d fun c=>oB (zi 0) c fun c=>kR Q a b c h)) (kR Q a b (zi 0) h))))
def HC:=aq (dW h 53 a fun a h=>zo 0 h a fun b=>bZ b 1 (VN 4 3 h a fun a=>CP ml [a] h fun a h=>ze a 0 fun b=>ze a 1 fun a=>Q b h) (bZ b 2 (zo 7 h a fun a=>CP lY [a] h fun a h=>Q a h) (bZ b 3 (zo 8 h a fun a=>CP pC [a] h fun a h=>CP wI [a] h fun a h=>Q a h) (bZ b 4 (zo 1 h a fun a=>CP jt [a] h fun a h=>Q a h) (bZ b 6 (VN 9 5 h a fun b=>CP ta [b] h fun b c=>zb .add 9 b (.string (bs [58])) fun b=>zp 14 a fun a=>za 5 c a fun d=>(fJ 5 h a)=some d∧CP ta [d] c fun a h=>zb .add 9 b a fun a=>Q a h) (VN 9 5 h a fun a=>CP ta [a] h fun a h=>Q a h))))))
def RZ:=aq (VM (Bu Q) [a,b,c,(zi 0)] h)
end
variable{a b c d e f g i j k l m n o p q r s t u v w x y z A C D E F G L M N O P R S U V W Y Z:Value}{h:H}{Q:KQ}
theorem Au(X:vV a h Q):aj PP cv [a] h Q:=okF Tryz.f3 ⟨64,[],[]⟩ X
theorem DZ(X:AU a h Q):aj PP mo [a] h Q:=okF Tryz.f4 ⟨45,[],[]⟩ X
theorem Gp(X:Ew h Q):aj PP gT [] h Q:=okF Tryz.f5 ⟨45,[],[]⟩ X
theorem D_(X:AX a h Q):aj PP e_ [a] h Q:=okF Tryz.f6 ⟨43,[(0,([1,4,15,16],[2,3,4]))],[]⟩ X
theorem JB(X:HX a b h Q):aj PP xn [a,b] h Q:=okF Tryz.f7 ⟨59,[(2,([2,3,6],[4])),(0,([2,3,5],[2,3,4]))],[]⟩ X
theorem Qp(X:Sd a h Q):aj PP DT [a] h Q:=okF Tryz.f8 ⟨33,[(0,([0,5,6],[2,3,4]))],[]⟩ X
theorem vQ(X:qD a h Q):aj PP cy [a] h Q:=okF Tryz.f9 ⟨5,[],[]⟩ X
theorem y3(X:uv a b h Q):aj PP cZ [a,b] h Q:=okF Tryz.f10 ⟨19,[],[]⟩ X
theorem HE(X:E1 a h Q):aj PP lY [a] h Q:=okF Tryz.f12 ⟨7,[],[]⟩ X
theorem Mf(X:Kq a h Q):aj PP zj [a] h Q:=okF Tryz.f13 ⟨11,[],[]⟩ X
theorem Js(X:HM a b c h Q):aj PP xc [a,b,c] h Q:=okF Tryz.f14 ⟨92,[(1,([4,5,9,69,70,71],[4,9]))],[]⟩ X
theorem Ob(X:Oc a b h Q):aj PP Bx [a,b] h Q:=okF Tryz.f15 ⟨108,[],[]⟩ X
theorem yd(X:th a b h Q):aj PP gK [a,b] h Q:=okF Tryz.f16 ⟨35,[(0,([2,3,5,6,7],[6]))],[]⟩ X
theorem Bz(X:x4 a b h Q):aj PP cg [a,b] h Q:=okF Tryz.f17 ⟨14,[],[]⟩ X
theorem y2(X:uu a b c h Q):aj PP bV [a,b,c] h Q:=okF Tryz.f18 ⟨26,[],[]⟩ X
theorem yZ(X:ur a h Q):aj PP bO [a] h Q:=okF Tryz.f19 ⟨22,[],[]⟩ X
theorem ye(X:tj a b c h Q):aj PP kz [a,b,c] h Q:=okF Tryz.f24 ⟨11,[],[]⟩ X
theorem Me(X:Kp a h Q):aj PP zh [a] h Q:=okF Tryz.f25 ⟨23,[],[]⟩ X
theorem FI(X:CJ a b c d h Q):aj PP eQ [a,b,c,d] h Q:=okF Tryz.f26 ⟨25,[],[]⟩ X
theorem LQ(X:Kh a h Q):aj PP ky [a] h Q:=okF Tryz.f27 ⟨35,[],[]⟩ X
theorem Jm(X:Hu a h Q):aj PP gJ [a] h Q:=okF Tryz.f28 ⟨14,[],[]⟩ X
theorem FE(X:Cs a b h Q):aj PP nM [a,b] h Q:=okF Tryz.f29 ⟨75,[(3,([1,8,63,64,65],[8])),(1,([0,1,5,39,40,41],[0,1,5]))],[]⟩ X
theorem Jp(X:HC a h Q):aj PP sk [a] h Q:=okF Tryz.f30 ⟨45,[],[]⟩ X
theorem Ql(X:RZ a b c h Q):aj PP sA [a,b,c] h Q:=okF Tryz.f31 ⟨26,[(0,([0,1,2,7],[7]))],[]⟩ X
end
end Go.Proofs.YtikojelnedfmpaaGreatDoor
namespace Go.Proofs.YtikojelnedfmpaaGreatDoor
open Go Go.X
set_option maxRecDepth 1000000
noncomputable section
section
variable(Q:KQ)(I J K T B:KI)(a b c d e f g i j k l m n o p q r s t u v w x y z A C D E F G L M N O P R S U V W Y Z:Value)(h:H)
def wV:=aq (Q a h)
def pG:=aq (oB b d fun e=>af (aO EE h 9 a (some b) (some e) none) fun e=>CP nK [e] h fun e h=>ze e 0 fun f=>ze e 1 fun e=>cq h 42 [zf,zs,zs] fun g h=>bW 3 h g f fun h=>oB b d fun f=>af (aO EE h 9 a (some b) (some f) none) fun a=>za 3 h g fun f=>lL 44 [(0,(zi 1)),(1,a),(2,b),(3,f)] fun a=>bW 6 h c a fun h=>zr c 44 h Q (MZ d e))
def nO:=aq (aG f (oB (zi 1) e fun e=>oB d e fun d=>pG Q a b c d h) (pG Q a b c d h))
def qx:=aq (CP jM [d,(.string (bs [34]))] h fun d h=>ze d 0 fun f=>ze d 1 fun g=>ze d 2 fun d=>tG d fun d=>aG d (lL 44 [] fun a=>bW 6 h b a fun h=>zr b 44 h Q (MZ (zi 0) (zi 10))) (CP aC [c,f] h fun d h=>cF 9 h f fun d h=>cM d 1 fun d=>oB e d fun d=>CP bo [g,(.string (bs [34]))] h fun e h=>aG e (CP dC [c,(zu 34)] h fun e h=>af (aO EE h 9 g (some (zi 1)) none none) fun e=>cM d 1 fun d=>I [a,b,c,e,d] h) (CP aW [c] h fun e h=>CP ju [e] h fun e h=>af (Oa 0 e) fun e=>PH e 2 (lL 44 [] fun a=>bW 6 h b a fun h=>zr b 44 h Q (MZ (zi 0) (zi 10))) (CP aW [c] h fun c h=>lL 42 [] fun e=>lL 44 [(0,(zi 2)),(1,c),(2,a),(3,e)] fun a=>bW 6 h b a fun h=>zr b 44 h Q (MZ d (zi 0))))))
def u_(Q:KQ)(I:KI)(a:Value)(b:Value)(c:Value)(d:Value)(e:Value)(h:H):=aq (cM e 1 fun e=>I [a,b,c,d,e] h)
def pH:=aq (aG g (u_ Q I a b c f e h) (u_ Q I a b c d e h))
def wY:=aq (Tv e 7 (CP jt [e] h fun f h=>cF 9 h f fun g h=>cF 9 h d fun i h=>zgt g i fun g=>aH g true (af (aO EE h 9 a (some b) none none) fun g=>CP bo [g,f] h fun g h=>pH Q I a b c d e f g h) (pH Q I a b c d e f zf h)) (Bb .eql 9 d zs (lL 44 [] fun a=>bW 6 h c a fun h=>zr c 44 h Q (MZ (zi 0) (zi 10))) (lL 42 [] fun a=>lL 44 [(0,(zi 10)),(1,d),(2,b),(3,a)] fun a=>cF 9 h d fun b h=>bW 6 h c a fun h=>zr c 44 h Q (MZ b (zi 0)))))
def bU:=aq (Q a h)
def uo:=aq (Q (.tuple ⟨[(zi 4),(zi 1)]⟩) h)
def dQ:=aq (aG a (uo Q h) (Q (.tuple ⟨[(zi 0),(zi 0)]⟩) h))
def wZ:=aq (aG a (Q (.tuple ⟨[(zi 4),(zi 2)]⟩) h) (uo Q h))
def um:=aq (cF 9 h a fun b h=>BU b 1 fun b=>aH b true (zy a (zi 1) fun a=>zb .eql 5 a (zu 61) fun a=>wZ Q a h) (wZ Q zf h))
def ga:=aq (aG b (CP jy [a] h fun a h=>Q a h) (CP bO [a] h fun b h=>CP c_ [a,b,(.func (.func cP) ⟨[a]⟩ ⟨[]⟩)] h fun b h=>lL 53 [(0,(zi 7)),(1,(zi 13)),(2,b)] fun b=>CP bh [a,b] h fun a h=>Q a h))
def eJ:=aq (aG d (Q c h) (cM c 1 fun c=>I [a,b,c] h))
def iK:=aq (Tv c 12 (CP gJ [c] h fun d e=>af (db a) fun f=>zp 0 f fun f=>zc e f fun g=>(aw h f)=some g∧af (AB 6 g (zi 0)) fun f=>zp 1 f fun f=>zc e f fun g=>(aw h f)=some g∧af (X.binOp EE .eql 9 d g) fun d=>aH d true (lL 53 [(0,(zi 8)),(1,c)] fun d=>CP ky [d] e fun d h=>zeq d b fun d=>eJ Q I a b c d h) (eJ Q I a b c zf e)) (Q (zi 0) h))
def lJ:=aq (af (aO EE h 9 a (some c) none none) fun a=>CP aC [b,a] h fun a h=>CP aW [b] h fun a h=>Q a h)
def lI:=aq (j0 g f (af (aO EE h 9 a (some e) none none) fun i=>CP rC [i,b] h fun i h=>oB e i fun i=>af (aO EE h 9 a (some e) (some i) none) fun e=>CP aC [d,e] h fun e h=>CP aC [d,c] h fun e h=>cF 9 h b fun e h=>oB i e fun e=>cM g 1 fun g=>I [a,b,c,d,e,f,g] h) (lJ Q a d e h))
def Ay:=aq (j0 f e (af (aO EE h 9 a (some d) none none) fun g=>CP nt [g] h fun g h=>ze g 0 fun i=>ze g 1 fun g=>oB d g fun g=>af (aO EE h 9 a (some d) (some g) none) fun d=>CP aC [c,d] h fun d h=>CP aC [c,b] h fun d h=>cM f 1 fun d=>I [a,b,c,g,e,d] h) (lJ Q a c d h))
def lH:=aq (cq h 92 [(.pointer none),zn] fun e h=>cF 9 h a fun f h=>cF 9 h c fun g h=>cF 9 h b fun i h=>M1 g i fun g=>zb .mul 3 d g fun g=>oB f g fun f=>CP dN [e,f] h fun f h=>cF 9 h b fun f h=>rL f 0 (zl7 (lI Q) [a,b,c,e,(zi 0),d,(zi 0)] h) (CP aC [e,c] h fun b h=>oJ d 1 fun b=>zl6 (Ay Q) [a,c,e,(zi 0),b,(zi 0)] h))
def lG:=aq (aG f (lH Q a b c e h) (lH Q a b c d h))
def mI:=aq (aG e (Q a h) (CP rq [a,b] h fun e h=>bZ e 0 (Q a h) (MT d 0 fun f=>aH f false (zls e d fun f=>lG Q a b c d e f h) (lG Q a b c d e zt h))))
def oc(Q:KQ)(I:KI)(a:Value)(b:Value)(c:Value)(d:Value)(e:Value)(f:Value)(g:Value)(i:Value)(j:Value)(h:H):=aq (af (aO EE h 119 c none (some e) none) fun k=>za 4 h f fun f=>gh EE h 119 1 [(0,f)] fun f h=>(aO EE h 119 c none (some e) none)=some k∧ir EE h #[119,119] k f fun c h=>cM j 1 fun e=>I [a,b,c,d,g,i,e] h)
def tr:=aq (aG c (lL 71 [] fun b=>bW 4 h a b fun h=>zr a 71 h Q (FX zf)) (zx 4 b (zi 0) fun b=>za 4 h b fun b=>bW 4 h a b fun h=>zr a 71 h Q (FX zt)))
def pP:=aq (cq h 71 [(zi 0),(zi 0),(zi 0),(zi 0)] fun m n=>za 19 n f fun m=>CP ky [m] n fun m o=>za 19 o f fun p=>(fJ 19 n f)=some p∧af (aO EE o 119 c (some i) none none) fun f=>(aO EE n 119 c (some i) none none)=some f∧CP BH [p,f] o fun f p=>lL 71 [(0,e),(1,e),(2,m),(3,f)] fun e=>af (ss EE p h.next (.alloc 71)) fun f=>(ss EE o h.next (.alloc 71))=some f∧(ss EE n h.next (.alloc 71))=some f∧af (wa 4 p f e) fun h=>cF 23 h g fun e h=>rL e 0 (zx 4 c i fun e=>zo 1 h e fun e=>zp 1 f fun g=>bW 1 h g e fun h=>oc Q I a b c d i f j k l h) (oc Q I a b c d i f j k l h))
def pQ:=aq (aG m (zo 2 h f fun m=>Y' m d (lL 71 [] fun a=>bW 4 h b a fun h=>zr b 71 h Q (FX zf)) (zo 3 h f fun m=>oB d m fun d=>pP Q I a b c d e f g i j k l h)) (pP Q I a b c d e f g i j k l h))
def jR:=aq (j0 o n (zx 1 m o fun p=>zc h p fun p=>oB i o fun q=>zx 4 c q fun q=>zo 0 h q fun q=>Y' q p (lL 71 [] fun a=>bW 4 h b a fun h=>zr b 71 h Q (FX zf)) (cM o 1 fun o=>J [a,b,c,d,e,f,g,i,j,k,l,m,n,o] h)) (zo 0 h f fun m=>tS m 9 fun m=>aH m true (zo 3 h f fun m=>BU m 0 fun m=>pQ Q I a b c d e f g i j k l m h) (pQ Q I a b c d e f g i j k l zf h)))
def vh:=aq (aG m (lL 71 [] fun a=>bW 4 h b a fun h=>zr b 71 h Q (FX zf)) (cF 23 h g fun m h=>AfS (jR Q I) [a,b,c,d,e,f,g,i,j,k,l,g,m,(zi 0)] h))
def jQ:=aq (j0 g f (zx 19 e g fun i=>za 19 h i fun i=>cq h 53 [(zi 0),(zi 0),(zi 0),(zi 0),zf,zs,zs,zs,zf,zs,(zi 0),(zi 0),zf,zf,zs,(zi 0),(zi 0),zf,zf] fun j h=>bW 19 h j i fun h=>za 19 h j fun i=>CP zY [i] h fun i h=>tG i fun i=>aG i (lL 71 [] fun a=>bW 4 h b a fun h=>zr b 71 h Q (FX zf)) (za 19 h j fun i=>zo 1 h a fun k=>CP BF [i,k] h fun i h=>ze i 0 fun k=>ze i 1 fun i=>cF 119 h c fun l h=>cF 23 h k fun m h=>M1 l m fun l=>tG i fun i=>aH i false (MT l 0 fun i=>vh Q I a b c d g j k l e f g i h) (vh Q I a b c d g j k l e f g zt h))) (cF 119 h c fun e h=>AdU e 1 fun e=>aH e false (zo 1 h a fun a=>cF 23 h a fun a h=>zne d a fun a=>tr Q b c a h) (tr Q b c zt h)))
end
section
variable(a b c d e f g i j k l m n o p q r s t u v w x y z A C D E F G L M N O P R S U V W Y Z:Value)(h:H)(Q:KQ)
def Hn:=aq (zb .eql 5 a (zu 32) fun a=>Q a h)
def Ke:=aq (zb .geq 5 a (zu 48) fun b=>aH b true (zb .leq 5 a (zu 57) fun a=>wV Q a h) (wV Q zf h))
def Hp:=aq (cq h 44 [(zi 0),zs,(zi 0),zf,zs,zs] fun c h=>CP sA [a,b,(.func (.func fG) ⟨[]⟩ ⟨[]⟩)] h fun d h=>oB b d fun e=>cM e 1 fun e=>CP sA [a,e,(.func (.func fG) ⟨[]⟩ ⟨[]⟩)] h fun e h=>BU e 0 fun f=>aH f true (oB b d fun f=>zy a f fun f=>zb .eql 5 f (zu 46) fun f=>nO Q a b c d e f h) (nO Q a b c d e zf h))
def N':=aq (cq h 44 [(zi 0),zs,(zi 0),zf,zs,zs] fun c h=>cq h 92 [(.pointer none),zn] fun d h=>cM b 1 fun e=>af (aO EE h 9 a (some e) none none) fun a=>CP jM [a,(.string (bs [34]))] h fun a h=>ze a 0 fun e=>ze a 1 fun f=>ze a 2 fun a=>tG a fun a=>aG a (lL 44 [] fun a=>bW 6 h c a fun h=>zr c 44 h Q (MZ (zi 0) (zi 10))) (CP aC [d,e] h fun a h=>cF 9 h e fun a h=>cM a 1 fun a=>oB (zi 1) a fun a=>CP bo [f,(.string (bs [34]))] h fun e h=>aG e (CP dC [d,(zu 34)] h fun e h=>af (aO EE h 9 f (some (zi 1)) none none) fun e=>cM a 1 fun a=>Y_ (qx Q) [b,c,d,e,a] h) (CP aW [d] h fun e h=>CP ju [e] h fun e h=>af (Oa 0 e) fun e=>PH e 2 (lL 44 [] fun a=>bW 6 h c a fun h=>zr c 44 h Q (MZ (zi 0) (zi 10))) (CP aW [d] h fun d h=>lL 42 [] fun e=>lL 44 [(0,(zi 2)),(1,d),(2,b),(3,e)] fun b=>bW 6 h c b fun h=>zr c 44 h Q (MZ a (zi 0))))))
def Kg:=aq (cq h 44 [(zi 0),zs,(zi 0),zf,zs,zs] fun c h=>Y_ (wY Q) [a,b,c,zs,(zi 1)] h)
def Hm:=aq (zb .geq 5 a (zu 65) fun b=>aH b true (zb .leq 5 a (zu 90) fun b=>aH b false (zb .geq 5 a (zu 97) fun b=>aH b true (zb .leq 5 a (zu 122) fun b=>aH b false (CP fG [a] h fun b h=>aH b false (zb .eql 5 a (zu 36) fun b=>aH b false (zb .eql 5 a (zu 95) fun a=>bU Q a h) (bU Q zt h)) (bU Q zt h)) (bU Q zt h)) (CP fG [a] h fun b h=>aH b false (zb .eql 5 a (zu 36) fun b=>aH b false (zb .eql 5 a (zu 95) fun a=>bU Q a h) (bU Q zt h)) (bU Q zt h))) (bU Q zt h)) (zb .geq 5 a (zu 97) fun b=>aH b true (zb .leq 5 a (zu 122) fun b=>aH b false (CP fG [a] h fun b h=>aH b false (zb .eql 5 a (zu 36) fun b=>aH b false (zb .eql 5 a (zu 95) fun a=>bU Q a h) (bU Q zt h)) (bU Q zt h)) (bU Q zt h)) (CP fG [a] h fun b h=>aH b false (zb .eql 5 a (zu 36) fun b=>aH b false (zb .eql 5 a (zu 95) fun a=>bU Q a h) (bU Q zt h)) (bU Q zt h))))
def N0:=aq (zy a (zi 0) fun b=>Bb .eql 5 b (zu 40) (Q (.tuple ⟨[(zi 5),(zi 1)]⟩) h) (Bb .eql 5 b (zu 41) (Q (.tuple ⟨[(zi 6),(zi 1)]⟩) h) (Bb .eql 5 b (zu 44) (Q (.tuple ⟨[(zi 7),(zi 1)]⟩) h) (Bb .eql 5 b (zu 58) (Q (.tuple ⟨[(zi 8),(zi 1)]⟩) h) (Bb .eql 5 b (zu 33) (Q (.tuple ⟨[(zi 9),(zi 1)]⟩) h) (Bb .eql 5 b (zu 60) (CP bo [a,(.string (bs [60,62]))] h fun b h=>aG b (Q (.tuple ⟨[(zi 4),(zi 2)]⟩) h) (um Q a h)) (Bb .eql 5 b (zu 62) (um Q a h) (zb .eql 5 b (zu 43) fun a=>aG a (dQ Q a h) (zb .eql 5 b (zu 45) fun a=>aG a (dQ Q a h) (zb .eql 5 b (zu 42) fun a=>aG a (dQ Q a h) (zb .eql 5 b (zu 47) fun a=>aG a (dQ Q a h) (zb .eql 5 b (zu 94) fun a=>aG a (dQ Q a h) (zb .eql 5 b (zu 38) fun a=>aG a (dQ Q a h) (zb .eql 5 b (zu 61) fun a=>aG a (dQ Q a h) (zb .eql 5 b (zu 37) fun a=>dQ Q a h)))))))))))))))
def tg:=aq (CP cg [a,(zi 4)] h fun b h=>tG b fun b=>aH b false (af (db a) fun b=>zp 0 b fun b=>zc h b fun c=>zx 6 c (zi 0) fun d=>zp 1 d fun d=>zc h d fun e=>CP gJ [(zi 13)] h fun f h=>(aw h d)=some e∧(aw h b)=some c∧af (X.binOp EE .neq 9 e f) fun b=>ga Q a b h) (ga Q a zt h))
def qC:=aq (zc h a fun a=>zc h b fun b=>cM b 1 fun b=>CP gK [a,b] h fun a h=>Q a h)
def qz:=aq (CP cg [a,(zi 4)] h fun c h=>tG c fun c=>aG c (Q (zi 0) h) (VL (iK Q) [a,b,(zi 1)] h))
def uy:=aq (dW h 53 b fun b h=>af (db a) fun c=>zp 1 c fun c=>zp 0 c fun c=>zc h c fun d=>za 19 h b fun b=>gh EE h 22 1 [(0,b)] fun b h=>(aw h c)=some d∧ir EE h #[22,22] d b fun b h=>af (db a) fun c=>zp 1 c fun c=>zp 0 c fun c=>bW 1 h c b fun h=>af (db a) fun a=>zp 1 a fun a=>zo 0 h a fun a=>cF 22 h a fun a h=>oJ a 1 fun a=>Q a h)
def x7:=aq (zb .eql 9 b c fun e=>aH e false (tS d 0 fun e=>mI Q a b c d e h) (mI Q a b c d zt h))
def Ko:=aq (dW h 25 a fun a h=>cq h 71 [(zi 0),(zi 0),(zi 0),(zi 0)] fun b h=>zo 0 h a fun c=>cF 22 h c fun d h=>zl7 (jQ Q) [a,b,zn,(zi 0),c,d,(zi 0)] h)
def ER:=aq (cq h 87 [zs,zs,zs,zs,zs,zs,zs,zs,zs,zs,zs,zs,zs,zs,zs] fun a h=>lL 87 [(0,zs),(1,(.string (bs [43]))),(2,(.string (bs [45]))),(3,(.string (bs [42]))),(4,(.string (bs [47]))),(5,(.string (bs [94]))),(6,(.string (bs [38]))),(7,(.string (bs [61]))),(8,(.string (bs [60,62]))),(9,(.string (bs [60]))),(10,(.string (bs [60,61]))),(11,(.string (bs [62]))),(12,(.string (bs [62,61]))),(13,(.string (bs [45]))),(14,(.string (bs [37])))] fun b=>bW 15 h a b fun h=>zr a 87 h Q MU)
def qk:=aq (CP cH [a] h fun c h=>Bc b 0 (af (tC EE 9 (.string (bs [115,116,114,105,110,103,115,46,66,117,105,108,100,101,114,46,71,114,111,119,58,32,110,101,103,97,116,105,118,101,32,99,111,117,110,116]))) fun a=>False) (af (db a) fun c=>zo 1 h c fun c=>T5 EE h [90] c fun c d=>af (db a) fun e=>zp 1 e fun e=>zc d e fun f=>(aw h e)=some f∧af ((bq EE d .len #[90] [f]).bind dw) fun e=>M1 c e fun c=>j0 c b (CP jk [a,b] d fun a h=>Q (.tuple ⟨[]⟩) h) (Q (.tuple ⟨[]⟩) d)))
def j5:=aq (CP cH [a] h fun c h=>af (db a) fun c=>zo 1 h c fun c=>ir EE h #[90,9] c b fun c h=>af (db a) fun a=>zp 1 a fun a=>bW 1 h a c fun h=>cF 9 h b fun a h=>Q (.tuple ⟨[a,.nilIface]⟩) h)
def nL:=aq (af (db a) fun b=>zo 1 h b fun b=>blt EE h .unsafeSliceData #[90] [b] fun b c=>af (db a) fun a=>zp 1 a fun a=>zc c a fun d=>(aw h a)=some d∧af ((bq EE c .len #[90] [d]).bind dw) fun a=>blt EE c .unsafeString #[124,3] [b,a] fun a h=>Q a h)
def AK:=aq (dW h 42 a fun a h=>za 3 h a fun b=>CP kq [b] h fun b h=>ze b 0 fun c=>ze b 1 fun b=>tG b fun b=>aG b (Q (.tuple ⟨[zs,zf]⟩) h) (za 3 h a fun b=>CP kp [b] h fun b h=>bW 3 h a b fun h=>zp 1 a fun b=>zc h b fun d=>CP gv [(.int .u64 10),c] h fun e f=>(aw f b)=some d∧CP sw [d,e] f fun b d=>zp 2 a fun a=>zc d a fun e=>(aw f a)=some e∧(aw h a)=some e∧CP dY [b,e] d fun a h=>ze a 0 fun b=>ze a 1 fun d=>ze a 2 fun a=>tR .neq 26 a 0 (Q (.tuple ⟨[zs,zf]⟩) h) (CP sN [b] h fun a h=>bZ c 0 (Q (.tuple ⟨[a,zt]⟩) h) (cM c 1 fun b=>cF 9 h a fun d h=>M1 b d fun b=>blt EE h .max #[3,3] [(zi 0),b] fun b h=>CP oU [(.string (bs [48])),b] h fun b h=>zb .add 9 b a fun a=>af ((bq EE h .len #[9] [a]).bind dw) fun b=>M1 b c fun b=>af (aO EE h 9 a none (some b) none) fun b=>zb .add 9 b (.string (bs [46])) fun b=>af ((bq EE h .len #[9] [a]).bind dw) fun d=>M1 d c fun c=>af (aO EE h 9 a (some c) none none) fun a=>zb .add 9 b a fun a=>Q (.tuple ⟨[a,zt]⟩) h))))
def G2:=aq (dW h 103 a fun a h=>za 7 h a fun b=>CP uU [b] h fun b h=>tG b fun b=>aG b (Q zs h) (zo 0 h a fun b=>bZ b 1 (VN 1 3 h a fun a=>CP sR [a] h fun a h=>Q a h) (bZ b 3 (zo 5 h a fun a=>aG a (Q (.string (bs [84,82,85,69])) h) (Q (.string (bs [70,65,76,83,69])) h)) (bZ b 4 (zo 6 h a fun a=>CP jt [a] h fun a h=>Q a h) (zo 4 h a fun a=>Q a h)))))
def EH:=aq (cq h 103 [(zi 0),zf,zs,zs,zs,zf,(zi 0)] fun b h=>lL 103 [(0,(zi 3)),(3,a)] fun a=>bW 7 h b a fun h=>zr b 103 h Q MU)
end
variable{a b c d e f g i j k l m n o p q r s t u v w x y z A C D E F G L M N O P R S U V W Y Z:Value}{h:H}{Q:KQ}
theorem Ji(X:Hn a h Q):aj PP wW [a] h Q:=okF Tryz.f32 ⟨5,[],[]⟩ X
theorem LF(X:Ke a h Q):aj PP fG [a] h Q:=okF Tryz.f33 ⟨9,[],[]⟩ X
theorem Jj(X:Hp a b h Q):aj PP wX [a,b] h Q:=okF Tryz.f34 ⟨55,[],[]⟩ X
theorem N_(X:N' a b h Q):aj PP Bw [a,b] h Q:=okF Tryz.f35 ⟨50,[],[(0,([0,1,4,7,11,12],[4,5,6]))]⟩ X
theorem LJ(X:Kg a b h Q):aj PP yX [a,b] h Q:=okF Tryz.f36 ⟨38,[(0,([0,1,4,7,8],[1,4,7]))],[]⟩ X
theorem Jg(X:Hm a h Q):aj PP sg [a] h Q:=okF Tryz.f37 ⟨29,[],[]⟩ X
theorem NZ(X:N0 a h Q):aj PP Bv [a] h Q:=okF Tryz.f38 ⟨39,[],[]⟩ X
theorem yc(X:tg a h Q):aj PP cP [a] h Q:=okF Tryz.f39 ⟨30,[],[]⟩ X
theorem vP(X:qC a b h Q):aj PP jz [a,b] h Q:=okF Tryz.f40 ⟨7,[],[]⟩ X
theorem vL(X:qz a b h Q):aj PP fC [a,b] h Q:=okF Tryz.f41 ⟨31,[(0,([0,1,5],[4]))],[]⟩ X
theorem y4(X:uy a b h Q):aj PP bh [a,b] h Q:=okF Tryz.f42 ⟨24,[],[]⟩ X
theorem BD(X:x7 a b c d h Q):aj PP uI [a,b,c,d] h Q:=okF Tryz.f47 ⟨104,[(2,([0,2,10,11,77,78],[0,10,11])),(0,([0,1,2,10,11,52,53],[0,10,11]))],[]⟩ X
theorem Md(X:Ko a h Q):aj PP zg [a] h Q:=okF Tryz.f48 ⟨120,[(0,([1,2,4,5,15,16,17],[1,2,3,4,5])),(2,([1,2,4,5,6,7,8,10,15,16,17,45,46,47],[1,2,3,4,5,6,7,8,10,15,16,17]))],[]⟩ X
theorem Ht(X:ER h Q):aj PP va [] h Q:=okF Tryz.f49 ⟨2,[],[]⟩ X
theorem vz(X:qk a b h Q):aj PP dN [a,b] h Q:=okF Tryz.f50 ⟨25,[],[]⟩ X
theorem oX(X:j5 a b h Q):aj PP aC [a,b] h Q:=okF Tryz.f51 ⟨19,[],[]⟩ X
theorem tK(X:nL a h Q):aj PP aW [a] h Q:=okF Tryz.f52 ⟨14,[],[]⟩ X
theorem DL(X:AK a h Q):aj PP ml [a] h Q:=okF Tryz.f53 ⟨61,[],[]⟩ X
theorem I4(X:G2 a h Q):aj PP wI [a] h Q:=okF Tryz.f54 ⟨24,[],[]⟩ X
theorem GW(X:EH a h Q):aj PP pC [a] h Q:=okF Tryz.f55 ⟨5,[],[]⟩ X
end
end Go.Proofs.YtikojelnedfmpaaGreatDoor
namespace Go.Proofs.YtikojelnedfmpaaGreatDoor
open Go Go.X
set_option maxRecDepth 1000000
noncomputable section
section
variable(Q:KQ)(I J K T B:KI)(a b c d e f g i j k l m n o p q r s t u v w x y z A C D E F G L M N O P R S U V W Y Z:Value)(h:H)
def pA:=aq (aG c (Q zs h) (af (ixP 8 1 b a) fun a=>zc h a fun a=>Q a h))
def sc:=aq (zo 1 h a fun c=>zo 2 h a fun d=>CP zk [c,d] h fun c h=>zo 1 h a fun a=>CP s0 [a] h fun a h=>CP kv [c,a] h fun a h=>gh EE h 48 1 [(0,a)] fun a h=>ir EE h #[48,48] b a fun a h=>CP nM [a,zs] h fun a h=>Q a h)
def sd:=aq (zo 1 h a fun c=>CP s0 [c] h fun c h=>gh EE h 48 1 [(0,c)] fun c h=>ir EE h #[48,48] b c fun b h=>zo 4 h a fun c=>aG c (gh EE h 48 1 [(0,(.string (bs [36])))] fun c h=>ir EE h #[48,48] b c fun b h=>sc Q a b h) (sc Q a b h))
def uj:=aq (zo 3 h a fun c=>aG c (gh EE h 48 1 [(0,(.string (bs [36])))] fun c h=>ir EE h #[48,48] b c fun b h=>sd Q a b h) (sd Q a b h))
def fi:=aq (aG e (lL 42 [] fun a=>bW 3 h b a fun h=>zr b 42 h Q (FX (zi 10))) (cF 9 h a fun a h=>rL a 400 (lL 42 [] fun a=>bW 3 h b a fun h=>zr b 42 h Q (FX (zi 9))) (zb .add 9 c d fun a=>CP yO [a] h fun a h=>ze a 0 fun c=>ze a 1 fun a=>tR .neq 26 a 0 (lL 42 [] fun c=>bW 3 h b c fun h=>zr b 42 h Q (FX a)) (CP kQ [zf,c] h fun a h=>cF 9 h d fun c h=>CP gv [(.int .u64 10),c] h fun c h=>CP kQ [zf,c] h fun c h=>CP wM [a,c] h fun a h=>ze a 0 fun c=>ze a 1 fun a=>bW 3 h b c fun h=>zr b 42 h Q (FX a)))))
def dy:=aq (aG c (CP bO [a] h fun c h=>lL 53 [(0,(zi 7)),(1,(zi 14)),(2,b)] fun b=>CP bh [a,b] h fun b h=>I [a,b] h) (Q b h))
def cJ:=aq (CP cg [a,(zi 4)] h fun c h=>aH c true (af (db a) fun c=>zp 0 c fun c=>zc h c fun d=>zx 6 d (zi 0) fun e=>zp 1 e fun e=>zc h e fun f=>CP gJ [(zi 14)] h fun g h=>(aw h e)=some f∧(aw h c)=some d∧af (X.binOp EE .eql 9 f g) fun c=>dy Q I a b c h) (dy Q I a b zf h))
def Dn:=aq (CP rC [a,b] h fun d h=>AdT d (.int .i64 (-1)) (Q c h) (cM c 1 fun c=>cF 9 h b fun e h=>oB d e fun d=>af (aO EE h 9 a (some d) none none) fun a=>I [a,b,c] h))
def xe:=aq (Q a h)
def d_:=aq (aH c true (za 19 h b fun b=>za 19 h a fun a=>zb .eql 53 b a fun a=>xe Q a h) (xe Q zf h))
def zd:=aq (d_ Q a b c h)
def xf:=aq (d_ Q a b c h)
def kW:=aq (d_ Q a b c h)
def sn:=aq (aG c (Q (.tuple ⟨[zn,zf]⟩) h) (zo 2 h b fun c=>zo 2 h b fun d=>zo 3 h b fun e=>oB d e fun d=>zo 2 h b fun e=>zo 3 h b fun b=>oB e b fun b=>af (aO EE h 23 a (some c) (some d) (some b)) fun a=>Q (.tuple ⟨[a,zt]⟩) h))
def xh(Q:KQ)(I:KI)(a:Value)(b:Value)(c:Value)(d:Value)(e:Value)(f:Value)(g:Value)(h:H):=aq (blt EE h .max #[3,3] [b,d] fun b h=>cM g 1 fun d=>I [a,b,c,e,f,d] h)
def xg:=aq (Q a h)
def kX:=aq (aG i (cM d 1 fun d=>xh Q I a b c d e f g h) (xh Q I a b c d e f g h))
def sr:=aq (aG b (cM a 1 fun a=>xg Q a h) (xg Q a h))
def m5:=aq (j0 f e (zx 4 d f fun g=>za 4 h g fun g=>cq h 71 [(zi 0),(zi 0),(zi 0),(zi 0)] fun i h=>bW 4 h i g fun h=>zo 3 h i fun g=>zo 0 h a fun j=>AdU j 9 fun j=>aH j true (zo 2 h i fun j=>zls j c fun j=>aH j false (tS f 1 fun j=>aH j true (zo 2 h i fun i=>zeq i c fun i=>kX Q I a b c g d e f i h) (kX Q I a b c g d e f zf h)) (kX Q I a b c g d e f zt h)) (kX Q I a b c g d e f zf h)) (zo 0 h a fun a=>tS a 9 fun a=>aH a false (tS c 6 fun a=>sr Q b a h) (sr Q b zt h)))
end
section
variable(a b c d e f g i j k l m n o p q r s t u v w x y z A C D E F G L M N O P R S U V W Y Z:Value)(h:H)(Q:KQ)
def GR:=aq (CP py [] h fun b h=>cq h 136 [zs,zs,zs,zs,zs,zs,zs,zs] fun c h=>bW 8 h c b fun h=>MT a 0 fun b=>aH b false (PG a 8 fun b=>pA Q a c b h) (pA Q a c zt h))
def NX:=aq (dW h 51 a fun a h=>za 5 h a fun b=>CP mY [b] h fun b h=>tG b fun b=>aG b (Q zs h) (zo 0 h a fun b=>Bb .neq 9 b zs (zo 0 h a fun b=>gh EE h 48 2 [(0,b),(1,(.string (bs [33])))] fun b h=>ir EE h #[48,48] zn b fun b h=>uj Q a b h) (uj Q a zn h)))
def xZ:=aq (cq h 42 [zf,zs,zs] fun b h=>CP jM [a,(.string (bs [46]))] h fun c h=>ze c 0 fun d=>ze c 1 fun e=>ze c 2 fun c=>CP kO [d] h fun f h=>tG f fun f=>aH f false (aH c true (CP kO [e] h fun c h=>tG c fun c=>fi Q a b d e c h) (fi Q a b d e zf h)) (fi Q a b d e zt h))
def EN:=aq (CP fU [a,b] h fun a h=>ze a 0 fun b=>ze a 1 fun c=>ze a 2 fun a=>Q (.tuple ⟨[b,c,a]⟩) h)
def ug:=aq (CP ca [a,b] h fun a h=>Q a h)
def lc:=aq (CP cH [a] h fun c h=>af (db a) fun c=>zo 1 h c fun c=>gh EE h 90 1 [(0,b)] fun b h=>ir EE h #[90,90] c b fun b h=>af (db a) fun a=>zp 1 a fun a=>bW 1 h a b fun h=>Q .nilIface h)
def GV:=aq (cq h 103 [(zi 0),zf,zs,zs,zs,zf,(zi 0)] fun b h=>CP uQ [a] h fun c h=>tG c fun c=>aG c (CP pB [(zi 2)] h fun a h=>bW 7 h b a fun h=>zr b 103 h Q MU) (lL 103 [(0,(zi 2)),(2,a)] fun a=>bW 7 h b a fun h=>zr b 103 h Q MU))
def qB:=aq (CP jZ [a] h fun b h=>VK (cJ Q) [a,b] h)
def lD:=aq (dW h 44 b fun b h=>af (db a) fun d=>zo 3 h d fun d=>bZ d 24 (za 6 h b fun b=>CP bV [a,b,(zi 8)] h fun a h=>Q a h) (af (db a) fun b=>zo 3 h b fun b=>cM b 1 fun b=>af (db a) fun d=>zp 3 d fun d=>bW 1 h d b fun h=>DP c [] h fun b h=>af (db a) fun c=>zo 3 h c fun c=>oJ c 1 fun c=>af (db a) fun a=>zp 3 a fun a=>bW 1 h a c fun h=>Q b h))
def AV:=aq (cF 9 h b fun c h=>bZ c 0 (CP oy [a] h fun a h=>cM a 1 fun a=>Q a h) (cF 9 h b fun c h=>bZ c 1 (zy b (zi 0) fun b=>CP eD [a,b] h fun a h=>Q a h) (VL (Dn Q) [a,b,(zi 0)] h)))
def AW:=aq (CP de [a,b] h fun a h=>Q a h)
def pO:=aq (dW h 53 a fun a h=>zo 0 h a fun b=>lL 53 [(0,b)] fun b=>cq h 53 [(zi 0),(zi 0),(zi 0),(zi 0),zf,zs,zs,zs,zf,zs,(zi 0),(zi 0),zf,zf,zs,(zi 0),(zi 0),zf,zf] fun c h=>bW 19 h c b fun h=>zo 0 h a fun b=>bZ b 1 (zp 4 a fun b=>za 3 h b fun d=>VN 4 3 h a fun e=>CP xa [e] h fun e h=>(fJ 3 h b)=some d∧af (jx 4 c) fun b=>bW 3 h b d fun h=>d_ Q a c e h) (bZ b 2 (zp 7 a fun b=>zc h b fun d=>zo 7 h a fun e=>CP ju [e] h fun e h=>(aw h b)=some d∧af (Oa 0 e) fun b=>tS b 2 fun b=>zp 7 c fun e=>bW 1 h e d fun h=>d_ Q a c b h) (bZ b 3 (zo 8 h a fun b=>zp 8 c fun d=>bW 1 h d b fun h=>d_ Q a c zt h) (bZ b 4 (zp 1 a fun b=>zc h b fun d=>zo 1 h a fun e=>CP jt [e] h fun e h=>(aw h b)=some d∧af (X.binOp EE .neq 9 e zs) fun b=>zp 1 c fun e=>bW 1 h e d fun h=>d_ Q a c b h) (bZ b 5 (zp 9 a fun b=>za 5 h b fun d=>VN 9 5 h a fun e=>CP mY [e] h fun e h=>(fJ 5 h b)=some d∧af (jx 9 c) fun b=>bW 5 h b d fun h=>d_ Q a c e h) (bZ b 6 (zp 9 a fun b=>za 5 h b fun d=>zp 14 a fun e=>za 5 h e fun f=>VN 9 5 h a fun g=>VN 14 5 h a fun i=>CP D2 [g,i] h fun g h=>(fJ 5 h e)=some f∧(fJ 5 h b)=some d∧af (jx 9 c) fun b=>bW 5 h b d fun h=>(fJ 5 h e)=some f∧af (jx 14 c) fun b=>bW 5 h b f fun h=>d_ Q a c g h) (bZ b 7 (zo 1 h a fun b=>zp 2 a fun d=>zc h d fun e=>zo 1 h a fun f=>tS f 13 fun f=>aH f false (zp 1 a fun f=>zc h f fun g=>tS g 14 fun i=>zp 1 c fun j=>bW 1 h j b fun h=>(aw h f)=some g∧(aw h d)=some e∧af (jx 2 c) fun b=>bW 1 h b e fun h=>(aw h f)=some g∧zd Q a c i h) (zp 1 c fun f=>bW 1 h f b fun h=>(aw h d)=some e∧af (jx 2 c) fun b=>bW 1 h b e fun h=>zd Q a c zt h)) (bZ b 8 (zo 1 h a fun b=>zp 2 a fun d=>zc h d fun e=>zp 3 a fun f=>zc h f fun g=>zo 1 h a fun i=>PG i 1 fun i=>aH i true (zp 1 a fun i=>zc h i fun j=>yg j 12 fun k=>zp 1 c fun l=>bW 1 h l b fun h=>(aw h i)=some j∧(aw h f)=some g∧(aw h d)=some e∧af (jx 2 c) fun b=>bW 1 h b e fun h=>(aw h i)=some j∧(aw h f)=some g∧af (jx 3 c) fun b=>bW 1 h b g fun h=>(aw h i)=some j∧xf Q a c k h) (zp 1 c fun i=>bW 1 h i b fun h=>(aw h f)=some g∧(aw h d)=some e∧af (jx 2 c) fun b=>bW 1 h b e fun h=>(aw h f)=some g∧af (jx 3 c) fun b=>bW 1 h b g fun h=>xf Q a c zf h)) (bZ b 9 (zp 7 a fun b=>zc h b fun d=>zp 2 a fun e=>zc h e fun f=>zp 3 a fun g=>zc h g fun i=>zo 7 h a fun j=>CP y_ [j] h fun j h=>(aw h g)=some i∧(aw h e)=some f∧(aw h b)=some d∧aH j true (zo 3 h a fun b=>PG b 0 fun b=>aH b true (zo 3 h a fun b=>yg b 20 fun b=>aH b true (zo 3 h a fun b=>BU b 0 fun b=>aH b false (zp 2 a fun b=>zc h b fun j=>tS j 0 fun k=>zp 7 c fun l=>bW 1 h l d fun h=>(aw h b)=some j∧(aw h g)=some i∧(aw h e)=some f∧af (jx 2 c) fun d=>bW 1 h d f fun h=>(aw h b)=some j∧(aw h g)=some i∧af (jx 3 c) fun d=>bW 1 h d i fun h=>(aw h b)=some j∧kW Q a c k h) (zp 7 c fun b=>bW 1 h b d fun h=>(aw h g)=some i∧(aw h e)=some f∧af (jx 2 c) fun b=>bW 1 h b f fun h=>(aw h g)=some i∧af (jx 3 c) fun b=>bW 1 h b i fun h=>kW Q a c zt h)) (zp 7 c fun b=>bW 1 h b d fun h=>(aw h g)=some i∧(aw h e)=some f∧af (jx 2 c) fun b=>bW 1 h b f fun h=>(aw h g)=some i∧af (jx 3 c) fun b=>bW 1 h b i fun h=>kW Q a c zf h)) (zp 7 c fun b=>bW 1 h b d fun h=>(aw h g)=some i∧(aw h e)=some f∧af (jx 2 c) fun b=>bW 1 h b f fun h=>(aw h g)=some i∧af (jx 3 c) fun b=>bW 1 h b i fun h=>kW Q a c zf h)) (zp 7 c fun b=>bW 1 h b d fun h=>(aw h g)=some i∧(aw h e)=some f∧af (jx 2 c) fun b=>bW 1 h b f fun h=>(aw h g)=some i∧af (jx 3 c) fun b=>bW 1 h b i fun h=>kW Q a c zf h)) (d_ Q a c zf h))))))))))
def OC:=aq (dW h 53 a fun a h=>zo 0 h a fun c=>bZ c 7 (zo 2 h a fun a=>gh EE h 23 1 [(0,a)] fun a h=>Q (.tuple ⟨[a,zt]⟩) h) (bZ c 8 (zo 2 h a fun b=>zo 3 h a fun a=>gh EE h 23 2 [(0,b),(1,a)] fun a h=>Q (.tuple ⟨[a,zt]⟩) h) (bZ c 9 (zo 2 h a fun c=>MT c 0 fun c=>aH c false (zo 2 h a fun c=>cF 23 h b fun d h=>zgt c d fun c=>aH c false (zo 3 h a fun c=>cF 23 h b fun d h=>zo 2 h a fun e=>M1 d e fun d=>zgt c d fun c=>sn Q b a c h) (sn Q b a zt h)) (sn Q b a zt h)) (Q (.tuple ⟨[zn,zt]⟩) h))))
def OM:=aq (dW h 53 a fun a h=>za 19 h a fun c=>CP ky [c] h fun c h=>cF 119 h b fun d h=>zl6 (m5 Q) [a,(zi 0),c,b,d,(zi 0)] h)
def k_:=aq (af (db a) fun b=>zo 0 h b fun b=>Bb .eql 89 b (.pointer none) (af (aT EE h 89 151 a) fun b=>CP bJ [b.1] b.2 fun b h=>af (aT EE h 151 89 b) fun b=>af (db a) fun a=>zp 0 a fun a=>bW 1 b.2 a b.1 fun h=>Q (.tuple ⟨[]⟩) h) (af (db a) fun b=>zo 0 h b fun b=>Bb .neq 89 b a (False) (Q (.tuple ⟨[]⟩) h)))
def qm:=aq (af (db a) fun c=>zo 1 h c fun c=>T5 EE h [90] c fun c d=>zb .mul 3 (zi 2) c fun c=>oB c b fun b=>CP eO [b] d fun b c=>af (db a) fun e=>zp 1 e fun e=>zc c e fun f=>(aw d e)=some f∧(aw h e)=some f∧af ((bq EE c .len #[90] [f]).bind dw) fun d=>af (aO EE c 90 b none (some d) none) fun b=>af (db a) fun d=>zo 1 c d fun d=>blt EE c .copy #[90,90] [b,d] fun c h=>af (db a) fun a=>zp 1 a fun a=>bW 1 h a b fun h=>Q (.tuple ⟨[]⟩) h)
def Cn:=aq (dW h 42 a fun a h=>za 3 h a fun a=>CP kp [a] h fun a h=>af (Oa 2 a) fun a=>CP Bj [a] h fun b h=>ze b 0 fun c=>ze b 1 fun b=>CP gv [(.int .u64 2),c] h fun d h=>CP gv [(.int .u64 5),b] h fun e h=>CP sw [d,e] h fun d h=>Bb .neq 9 d a (Q (.tuple ⟨[(zi 0),zf]⟩) h) (blt EE h .max #[3,3] [c,b] fun a h=>Q (.tuple ⟨[a,zt]⟩) h))
def Cm:=aq (dW h 42 a fun a h=>cq h 42 [zf,zs,zs] fun b h=>za 3 h a fun c=>CP qt [c] h fun c h=>aG c (za 3 h a fun a=>bW 3 h b a fun h=>zr b 42 h Q MU) (CP Cl [(zi 0)] h fun a h=>bW 3 h b a fun h=>zr b 42 h Q MU))
end
variable{a b c d e f g i j k l m n o p q r s t u v w x y z A C D E F G L M N O P R S U V W Y Z:Value}{h:H}{Q:KQ}
theorem IZ(X:GR a h Q):aj PP jt [a] h Q:=okF Tryz.f56 ⟨14,[],[]⟩ X
theorem NW(X:NX a h Q):aj PP ta [a] h Q:=okF Tryz.f57 ⟨46,[],[]⟩ X
theorem Bl(X:xZ a h Q):aj PP nK [a] h Q:=okF Tryz.f58 ⟨53,[],[]⟩ X
theorem Ha(X:EN a b h Q):aj PP jM [a,b] h Q:=okF Tryz.f59 ⟨13,[],[]⟩ X
theorem yL(X:ug a b h Q):aj PP bo [a,b] h Q:=okF Tryz.f60 ⟨8,[],[]⟩ X
theorem q_(X:lc a b h Q):aj PP dC [a,b] h Q:=okF Tryz.f61 ⟨17,[],[]⟩ X
theorem I1(X:GV a h Q):aj PP ju [a] h Q:=okF Tryz.f62 ⟨9,[],[]⟩ X
theorem vO(X:qB a h Q):aj PP jy [a] h Q:=okF Tryz.f63 ⟨26,[(0,([0,3],[3]))],[]⟩ X
theorem nW(X:lD a b c h Q):aj PP c_ [a,b,c] h Q:=okF Tryz.f64 ⟨33,[],[]⟩ X
theorem D3(X:AV a b h Q):aj PP rq [a,b] h Q:=okF Tryz.f75 ⟨34,[(0,([0,1,5],[4]))],[]⟩ X
theorem D4(X:AW a b h Q):aj PP rC [a,b] h Q:=okF Tryz.f76 ⟨8,[],[]⟩ X
theorem jA(X:pO a h Q):aj PP zY [a] h Q:=okF Tryz.f78 ⟨138,[],[]⟩ X
theorem OB(X:OC a b h Q):aj PP BF [a,b] h Q:=okF Tryz.f79 ⟨56,[],[]⟩ X
theorem OL(X:OM a b h Q):aj PP BH [a,b] h Q:=okF Tryz.f80 ⟨56,[(0,([2,5,6,12,13,14],[2,5,6]))],[]⟩ X
theorem qZ(X:k_ a h Q):aj PP cH [a] h Q:=okF Tryz.f81 ⟨20,[],[]⟩ X
theorem vA(X:qm a b h Q):aj PP jk [a,b] h Q:=okF Tryz.f82 ⟨30,[],[]⟩ X
theorem FD(X:Cn a h Q):aj PP kq [a] h Q:=okF Tryz.f83 ⟨25,[],[]⟩ X
theorem FC(X:Cm a h Q):aj PP kp [a] h Q:=okF Tryz.f84 ⟨7,[],[]⟩ X
end
end Go.Proofs.YtikojelnedfmpaaGreatDoor
namespace Go.Proofs.YtikojelnedfmpaaGreatDoor
open Go Go.X
set_option maxRecDepth 1000000
noncomputable section
section
variable(Q:KQ)(I J K T B:KI)(a b c d e f g i j k l m n o p q r s t u v w x y z A C D E F G L M N O P R S U V W Y Z:Value)(h:H)
def kL:=aq (CP iv [a] h fun a h=>CP iv [b] h fun b h=>Q (.tuple ⟨[a,b,(zi 0)]⟩) h)
def yr(Q:KQ)(I:KI)(J:KI)(a:Value)(b:Value)(c:Value)(d:Value)(e:Value)(f:Value)(g:Value)(i:Value)(j:Value)(h:H):=aq (j0 j i (CP dK [a,d] h fun k h=>CP dK [b,j] h fun l h=>zb .mul 132 k l fun k=>oB d j fun l=>CP dK [c,l] h fun l h=>zb .add 132 k l fun k=>zb .add 132 k e fun e=>oB d j fun k=>af (aT EE h 132 160 e) fun l=>zx 1 c k fun k=>bW 1 l.2 k l.1 fun h=>zb .shr 132 e (.int .u64 32) fun e=>cM j 1 fun j=>J [a,b,c,d,e,f,g,i,j] h) (cF 162 h b fun i h=>oB d i fun d=>af (aT EE h 132 160 e) fun e=>zx 1 c d fun d=>bW 1 e.2 d e.1 fun h=>cM g 1 fun d=>I [a,b,c,f,d] h))
def yq:=aq (j0 e d (cF 162 h b fun f h=>zl9 (yr Q I) [a,b,c,e,(.int .u64 0),d,e,f,(zi 0)] h) (CP iC [c] h fun a h=>Q a h))
def wC:=aq (j0 d c (cF 48 h a fun e h=>oJ e 1 fun e=>M1 e d fun e=>zx 1 a e fun e=>zc h e fun e=>CP aC [b,e] h fun e h=>cM d 1 fun d=>I [a,b,c,d] h) (CP aW [b] h fun a h=>CP fK [a,(.string (bs [48]))] h fun a h=>Bb .eql 9 a zs (Q (.string (bs [48])) h) (Q a h)))
def yF:=aq (Bb .neq 9 a zs (CP gB [(.int .u64 1000000000)] h fun c h=>CP dY [a,c] h fun a h=>ze a 0 fun c=>ze a 1 fun d=>ze a 2 fun a=>tR .neq 26 a 0 (Q zs h) (CP tV [d] h fun a h=>ze a 0 fun d=>ze a 1 fun a=>CP wA [d,(zi 9)] h fun a h=>gh EE h 48 1 [(0,a)] fun a h=>ir EE h #[48,48] b a fun a h=>I [c,a] h)) (cq h 92 [(.pointer none),zn] fun a h=>cF 48 h b fun c h=>VM (wC Q) [b,a,c,(zi 0)] h))
def lC:=aq (CP ei [c] h fun d h=>j0 d a (CP ei [c] h fun d h=>M1 a d fun d=>CP ei [c] h fun e h=>blt EE h .min #[3,3,3] [d,e,b] fun d h=>CP aW [c] h fun e h=>af (aO EE h 9 e none (some d) none) fun d=>CP aC [c,d] h fun d h=>I [a,b,c] h) (CP aW [c] h fun a h=>Q a h))
def iw:=aq (cq h 92 [(.pointer none),zn] fun d h=>CP dN [d,b] h fun e h=>CP aC [d,a] h fun a h=>VL (lC Q) [b,c,d] h)
def jm:=aq (rL b 8192 (cF 9 h a fun c h=>zb .quo 3 (zi 8192) c fun c=>cF 9 h a fun d h=>zb .mul 3 c d fun c=>bZ c 0 (cF 9 h a fun c h=>iw Q a b c h) (iw Q a b c h)) (iw Q a b b h))
def jn:=aq (aG c (af (aO EE h 9 (.string (bs [9,9,9,9,9,9,9,9,9,9,9,9,9,9,9,9,9,9,9,9,9,9,9,9,9,9,9,9,9,9,9,9,9,9,9,9,9,9,9,9,9,9,9,9,9,9,9,9,9,9,9,9,9,9,9,9,9,9,9,9,9,9,9,9])) none (some b) none) fun a=>Q a h) (jm Q a b h))
def jo:=aq (aG c (af (aO EE h 9 (.string (bs [61,61,61,61,61,61,61,61,61,61,61,61,61,61,61,61,61,61,61,61,61,61,61,61,61,61,61,61,61,61,61,61,61,61,61,61,61,61,61,61,61,61,61,61,61,61,61,61,61,61,61,61,61,61,61,61,61,61,61,61,61,61,61,61,61,61,61,61,61,61,61,61,61,61,61,61,61,61,61,61,61,61,61,61,61,61,61,61,61,61,61,61,61,61,61,61,61,61,61,61,61,61,61,61,61,61,61,61,61,61,61,61,61,61,61,61,61,61,61,61,61,61,61,61,61,61,61,61])) none (some b) none) fun a=>Q a h) (yg b 64 fun c=>aH c true (CP bo [(.string (bs [9,9,9,9,9,9,9,9,9,9,9,9,9,9,9,9,9,9,9,9,9,9,9,9,9,9,9,9,9,9,9,9,9,9,9,9,9,9,9,9,9,9,9,9,9,9,9,9,9,9,9,9,9,9,9,9,9,9,9,9,9,9,9,9])),a] h fun c h=>jn Q a b c h) (jn Q a b zf h)))
def fR:=aq (aG c (af (aO EE h 9 (.string (bs [48,48,48,48,48,48,48,48,48,48,48,48,48,48,48,48,48,48,48,48,48,48,48,48,48,48,48,48,48,48,48,48,48,48,48,48,48,48,48,48,48,48,48,48,48,48,48,48,48,48,48,48,48,48,48,48,48,48,48,48,48,48,48,48])) none (some b) none) fun a=>Q a h) (yg b 128 fun c=>aH c true (CP bo [(.string (bs [61,61,61,61,61,61,61,61,61,61,61,61,61,61,61,61,61,61,61,61,61,61,61,61,61,61,61,61,61,61,61,61,61,61,61,61,61,61,61,61,61,61,61,61,61,61,61,61,61,61,61,61,61,61,61,61,61,61,61,61,61,61,61,61,61,61,61,61,61,61,61,61,61,61,61,61,61,61,61,61,61,61,61,61,61,61,61,61,61,61,61,61,61,61,61,61,61,61,61,61,61,61,61,61,61,61,61,61,61,61,61,61,61,61,61,61,61,61,61,61,61,61,61,61,61,61,61,61])),a] h fun c h=>jo Q a b c h) (jo Q a b zf h)))
def jq:=aq (aG c (af (aO EE h 9 (.string (bs [45,45,45,45,45,45,45,45,45,45,45,45,45,45,45,45,45,45,45,45,45,45,45,45,45,45,45,45,45,45,45,45,45,45,45,45,45,45,45,45,45,45,45,45,45,45,45,45,45,45,45,45,45,45,45,45,45,45,45,45,45,45,45,45,45,45,45,45,45,45,45,45,45,45,45,45,45,45,45,45,45,45,45,45,45,45,45,45,45,45,45,45,45,45,45,45,45,45,45,45,45,45,45,45,45,45,45,45,45,45,45,45,45,45,45,45,45,45,45,45,45,45,45,45,45,45,45,45])) none (some b) none) fun a=>Q a h) (yg b 64 fun c=>aH c true (CP bo [(.string (bs [48,48,48,48,48,48,48,48,48,48,48,48,48,48,48,48,48,48,48,48,48,48,48,48,48,48,48,48,48,48,48,48,48,48,48,48,48,48,48,48,48,48,48,48,48,48,48,48,48,48,48,48,48,48,48,48,48,48,48,48,48,48,48,48])),a] h fun c h=>fR Q a b c h) (fR Q a b zf h)))
def jr:=aq (aG c (af (aO EE h 9 (.string (bs [32,32,32,32,32,32,32,32,32,32,32,32,32,32,32,32,32,32,32,32,32,32,32,32,32,32,32,32,32,32,32,32,32,32,32,32,32,32,32,32,32,32,32,32,32,32,32,32,32,32,32,32,32,32,32,32,32,32,32,32,32,32,32,32,32,32,32,32,32,32,32,32,32,32,32,32,32,32,32,32,32,32,32,32,32,32,32,32,32,32,32,32,32,32,32,32,32,32,32,32,32,32,32,32,32,32,32,32,32,32,32,32,32,32,32,32,32,32,32,32,32,32,32,32,32,32,32,32])) none (some b) none) fun a=>Q a h) (yg b 128 fun c=>aH c true (CP bo [(.string (bs [45,45,45,45,45,45,45,45,45,45,45,45,45,45,45,45,45,45,45,45,45,45,45,45,45,45,45,45,45,45,45,45,45,45,45,45,45,45,45,45,45,45,45,45,45,45,45,45,45,45,45,45,45,45,45,45,45,45,45,45,45,45,45,45,45,45,45,45,45,45,45,45,45,45,45,45,45,45,45,45,45,45,45,45,45,45,45,45,45,45,45,45,45,45,45,45,45,45,45,45,45,45,45,45,45,45,45,45,45,45,45,45,45,45,45,45,45,45,45,45,45,45,45,45,45,45,45,45])),a] h fun c h=>jq Q a b c h) (jq Q a b zf h)))
def ez:=aq (aG c (yg b 128 fun c=>aH c true (CP bo [(.string (bs [32,32,32,32,32,32,32,32,32,32,32,32,32,32,32,32,32,32,32,32,32,32,32,32,32,32,32,32,32,32,32,32,32,32,32,32,32,32,32,32,32,32,32,32,32,32,32,32,32,32,32,32,32,32,32,32,32,32,32,32,32,32,32,32,32,32,32,32,32,32,32,32,32,32,32,32,32,32,32,32,32,32,32,32,32,32,32,32,32,32,32,32,32,32,32,32,32,32,32,32,32,32,32,32,32,32,32,32,32,32,32,32,32,32,32,32,32,32,32,32,32,32,32,32,32,32,32,32])),a] h fun c h=>jr Q a b c h) (jr Q a b zf h)) (jm Q a b h))
def mz:=aq (aG c (af (tC EE 9 (.string (bs [115,116,114,105,110,103,115,58,32,82,101,112,101,97,116,32,111,117,116,112,117,116,32,108,101,110,103,116,104,32,111,118,101,114,102,108,111,119]))) fun a=>False) (af (aT EE h 165 3 b) fun b=>cF 9 b.2 a fun c h=>bZ c 0 (Q zs h) (zy a (zi 0) fun c=>zb .eql 5 c (zu 32) fun d=>aG d (ez Q a b.1 d h) (zb .eql 5 c (zu 45) fun d=>aG d (ez Q a b.1 d h) (zb .eql 5 c (zu 48) fun d=>aG d (ez Q a b.1 d h) (zb .eql 5 c (zu 61) fun d=>aG d (ez Q a b.1 d h) (zb .eql 5 c (zu 9) fun c=>ez Q a b.1 c h)))))))
def kP:=aq (aG c (za 3 h a fun a=>CP ml [a] h fun a h=>ze a 0 fun c=>ze a 1 fun a=>zb .add 9 b c fun a=>Q a h) (zo 1 h a fun c=>CP sN [c] h fun c d=>zb .add 9 b c fun b=>zb .add 9 b (.string (bs [47])) fun b=>zp 2 a fun a=>zc d a fun c=>(aw h a)=some c∧CP sN [c] d fun a h=>zb .add 9 b a fun a=>Q a h))
def mm:=aq (za 3 h a fun c=>CP kq [c] h fun c h=>ze c 0 fun d=>ze c 1 fun c=>aH c true (yg d 20 fun c=>kP Q a b c h) (kP Q a b zf h))
def sa:=aq (Q a h)
def my:=aq (aG e (Q zf h) (cM d 1 fun d=>I [a,b,c,d] h))
def nF:=aq (j0 d c (zx 1 b d fun e=>zc h e fun e=>zb .lss 5 e (zu 48) fun f=>aH f false (zb .gtr 5 e (zu 57) fun e=>my Q I a b c d e h) (my Q I a b c d zt h)) (zb .neq 9 a zs fun a=>Q a h))
def u4(Q:KQ)(I:KI)(J:KI)(a:Value)(b:Value)(c:Value)(d:Value)(e:Value)(f:Value)(g:Value)(i:Value)(h:H):=aq (j0 i g (zx 1 f i fun j=>zc h j fun j=>zb .mul 132 d (.int .u64 10) fun d=>zb .sub 5 j (zu 48) fun j=>af (aT EE h 5 132 j) fun j=>zb .add 132 d j.1 fun d=>zb .mul 132 e (.int .u64 10) fun e=>cM i 1 fun i=>J [a,b,c,d,e,f,g,i] j.2) (CP gB [e] h fun e h=>CP sw [b,e] h fun b h=>CP gB [d] h fun d h=>CP Dz [b,d] h fun b h=>af (aO EE h 9 a (some c) none none) fun a=>I [a,b] h))
def u3:=aq (cF 9 h a fun c h=>rL c 0 (cF 9 h a fun c h=>blt EE h .min #[3,3] [(zi 9),c] fun c h=>af (aO EE h 9 a none (some c) none) fun d=>af (aT EE h 9 90 d) fun d=>cF 90 d.2 d.1 fun e h=>zl8 (u4 Q I) [a,b,c,(.int .u64 0),(.int .u64 1),d.1,e,(zi 0)] h) (Q (.tuple ⟨[b,(zi 0)]⟩) h))
def r9:=aq (aG b (Q (.tuple ⟨[zs,(zi 3)]⟩) h) (cF 9 h a fun b h=>rL b 400 (Q (.tuple ⟨[zs,(zi 9)]⟩) h) (VK (u3 Q) [a,zs] h)))
def wO:=aq (zr a 42 h Q (FX b))
def rY:=aq (aG f (lL 42 [] fun a=>bW 3 h c a fun h=>zr c 42 h Q (FX (zi 4))) (zb .neq 9 d zs fun f=>aH f true (zo 0 h a fun a=>zo 0 h b fun b=>zb .neq 4 a b fun a=>lL 42 [(0,a),(1,d),(2,e)] fun a=>bW 3 h c a fun h=>wO Q c (zi 0) h) (lL 42 [(0,zf),(1,d),(2,e)] fun a=>bW 3 h c a fun h=>wO Q c (zi 0) h)))
def rX:=aq (cF 9 h d fun f h=>BU f 32 fun f=>aH f false (cF 9 h e fun f h=>BU f 32 fun f=>rY Q a b c d e f h) (rY Q a b c d e zt h))
def uW:=aq (zr a 142 h Q MU)
def dE:=aq (Q a h)
def qW:=aq (aG e (Q zf h) (cM d 1 fun d=>I [a,b,c,d] h))
def sM:=aq (j0 d c (zx 1 b d fun e=>zc h e fun e=>zb .lss 5 e (zu 32) fun f=>aH f false (zb .gtr 5 e (zu 126) fun e=>qW Q I a b c d e h) (qW Q I a b c d zt h)) (cF 9 h a fun a h=>yg a 200 fun a=>Q a h))
def sS:=aq (lL 103 [(0,(zi 4)),(4,a)] fun a=>bW 7 h b a fun h=>zr b 103 h Q MU)
end
section
variable(a b c d e f g i j k l m n o p q r s t u v w x y z A C D E F G L M N O P R S U V W Y Z:Value)(h:H)(Q:KQ)
def AI:=aq (CP pv [a] h fun c h=>CP pv [b] h fun d h=>cF 156 h d fun e h=>bZ e 0 (Q (.tuple ⟨[zs,zs,(zi 5)]⟩) h) (CP Dy [a,b] h fun b h=>Bc b 0 (CP dh [a] h fun a h=>Q (.tuple ⟨[zs,a,(zi 0)]⟩) h) (cF 156 h d fun a h=>bZ a 1 (zx 1 d (zi 0) fun a=>zc h a fun a=>CP kg [c,a] h fun a h=>ze a 0 fun b=>ze a 1 fun a=>kL Q b a h) (CP lz [c,d] h fun a h=>ze a 0 fun b=>ze a 1 fun a=>kL Q b a h))))
def RK:=aq (CP jg [a] h fun a h=>CP jg [b] h fun b h=>cF 162 h a fun c h=>cF 162 h b fun d h=>oB c d fun c=>af (vU EE h 162 c c) fun c=>cF 162 c.2 a fun d h=>Y_ (yq Q) [a,b,c.1,d,(zi 0)] h)
def AN:=aq (CP gB [a] h fun a h=>CP wK [a,b] h fun a h=>ze a 0 fun b=>ze a 1 fun a=>tR .neq 26 a 0 (Q zs h) (Q b h))
def Nt:=aq (CP dh [a] h fun a h=>VK (yF Q) [a,zn] h)
def yG:=aq (bZ b 0 (Q zs h) (bZ b 1 (Q a h) (Bc b 0 (af (tC EE 9 (.string (bs [115,116,114,105,110,103,115,58,32,110,101,103,97,116,105,118,101,32,82,101,112,101,97,116,32,99,111,117,110,116]))) fun a=>False) (cF 9 h a fun c h=>af (aT EE h 3 165 c) fun c=>af (aT EE c.2 3 165 b) fun b=>CP mj [c.1,b.1] b.2 fun b h=>ze b 0 fun c=>ze b 1 fun b=>zb .gtr 165 c (.int .u64 0) fun c=>aH c false (zb .gtr 165 b (.int .u64 9223372036854775807) fun c=>mz Q a b c h) (mz Q a b zt h)))))
def EI:=aq (dW h 103 a fun a h=>zo 0 h a fun b=>bZ b 0 (za 7 h a fun a=>lL 103 [] fun b=>zb .eql 103 a b fun a=>Q a h) (bZ b 1 (za 7 h a fun b=>VN 1 3 h a fun c=>CP yJ [c] h fun c h=>(fJ 7 h a)=some b∧af (X.binOp EE .eql 103 b c) fun a=>Q a h) (bZ b 2 (za 7 h a fun b=>zo 4 h a fun c=>CP ju [c] h fun c h=>(fJ 7 h a)=some b∧af (X.binOp EE .eql 103 b c) fun a=>Q a h) (bZ b 3 (za 7 h a fun b=>zo 5 h a fun c=>CP pC [c] h fun c h=>(fJ 7 h a)=some b∧af (X.binOp EE .eql 103 b c) fun a=>Q a h) (bZ b 4 (za 7 h a fun b=>zo 6 h a fun c=>CP pB [c] h fun c h=>(fJ 7 h a)=some b∧af (X.binOp EE .eql 103 b c) fun a=>Q a h) (Q zf h))))))
def Ci:=aq (dW h 42 a fun a h=>za 3 h a fun b=>CP kp [b] h fun b h=>bW 3 h a b fun h=>zo 0 h a fun b=>aG b (mm Q a (.string (bs [45])) h) (mm Q a zs h))
def EF:=aq (cq h 136 [zs,zs,zs,zs,zs,zs,zs,zs] fun a h=>lL 136 [(0,zs),(1,(.string (bs [35,68,73,86,47,48,33]))),(2,(.string (bs [35,86,65,76,85,69,33]))),(3,(.string (bs [35,82,69,70,33]))),(4,(.string (bs [35,78,65,77,69,63]))),(5,(.string (bs [35,78,85,77,33]))),(6,(.string (bs [35,78,47,65]))),(7,(.string (bs [35,67,73,82,67,33])))] fun b=>bW 8 h a b fun h=>zr a 136 h Q MU)
def Ka:=aq (dW h 51 a fun a h=>zo 0 h a fun b=>zb .eql 9 b zs fun b=>aH b false (zo 0 h a fun b=>CP qH [b] h fun b h=>aH b true (zo 1 h a fun b=>zo 2 h a fun a=>CP mX [b,a] h fun a h=>sa Q a h) (sa Q zf h)) (zo 1 h a fun b=>zo 2 h a fun a=>CP mX [b,a] h fun a h=>sa Q a h))
def NR:=aq (CP jN [a,(zi 52)] h fun b h=>tG b fun b=>aG b (Q zs h) (oJ a 1 fun b=>PS .rem 3 b 26 fun b=>oB (zi 65) b fun b=>af (aT EE h 3 5 b) fun b=>gh EE b.2 90 1 [(0,b.1)] fun b h=>af (aT EE h 90 9 b) fun b=>Tv a 26 (Q b.1 b.2) (oJ a 1 fun a=>PS .quo 3 a 26 fun a=>oB (zi 65) a fun a=>oJ a 1 fun a=>af (aT EE b.2 3 5 a) fun a=>gh EE a.2 90 1 [(0,a.1)] fun a h=>af (aT EE h 90 9 a) fun a=>zb .add 9 a.1 b.1 fun b=>Q b a.2)))
def Kr:=aq (CP mX [a,b] h fun c h=>tG c fun c=>aG c (Q zs h) (CP s0 [a] h fun a h=>CP tq [b] h fun b h=>zb .add 9 a b fun a=>Q a h))
def s_:=aq (CP gm [a,b] h fun a h=>Q a h)
def yE:=aq (af (aT EE h 9 90 a) fun b=>cF 90 b.2 b.1 fun c h=>VM (nF Q) [a,b.1,c,(zi 0)] h)
def J7:=aq (zb .eql 9 a zs fun b=>aH b false (CP DH [a] h fun b h=>r9 Q a b h) (r9 Q a zt h))
def NK:=aq (dW h 142 a fun a h=>dW h 142 b fun b h=>cq h 42 [zf,zs,zs] fun c h=>zo 1 h a fun d=>CP dh [d] h fun d e=>zp 1 b fun f=>zc e f fun g=>(aw h f)=some g∧CP dh [g] e fun e h=>Bb .eql 9 e zs (lL 42 [] fun a=>bW 3 h c a fun h=>zr c 42 h Q (FX (zi 5))) (CP rR [d,e] h fun f h=>Bb .neq 9 f (.string (bs [1])) (CP dY [d,f] h fun d h=>ze d 0 fun g=>ze d 1 fun i=>ze d 2 fun d=>CP dY [e,f] h fun d h=>ze d 0 fun e=>ze d 1 fun f=>ze d 2 fun d=>rX Q a b c g e h) (rX Q a b c d e h)))
def G5:=aq (cq h 142 [zf,zs] fun c h=>CP dh [b] h fun b h=>aH a true (zb .neq 9 b zs fun a=>lL 142 [(0,a),(1,b)] fun a=>bW 2 h c a fun h=>uW Q c h) (lL 142 [(0,zf),(1,b)] fun a=>bW 2 h c a fun h=>uW Q c h))
def lW:=aq (CP de [a,b] h fun c h=>IN c 0 (af (aO EE h 9 a none (some c) none) fun d=>af ((bq EE h .len #[9] [b]).bind dw) fun b=>oB c b fun b=>af (aO EE h 9 a (some b) none none) fun a=>Q (.tuple ⟨[d,a,zt]⟩) h) (Q (.tuple ⟨[a,zs,zf]⟩) h))
def iI:=aq (cF 9 h a fun c h=>cF 9 h b fun d h=>zge c d fun c=>aH c true (cF 9 h b fun c h=>af (aO EE h 9 a none (some c) none) fun a=>zb .eql 9 a b fun a=>dE Q a h) (dE Q zf h))
def EC:=aq (af (aT EE h 9 90 a) fun b=>cF 90 b.2 b.1 fun c h=>VM (sM Q) [a,b.1,c,(zi 0)] h)
def EG:=aq (cq h 103 [(zi 0),zf,zs,zs,zs,zf,(zi 0)] fun b h=>CP jt [a] h fun c h=>Bb .eql 9 c zs (sS Q (zi 2) b h) (sS Q a b h))
def rI:=aq (CP bO [a] h fun b h=>cq h 44 [(zi 0),zs,(zi 0),zf,zs,zs] fun c h=>bW 6 h c b fun h=>zo 0 h c fun b=>bZ b 1 (VN 3 3 h c fun b=>lL 53 [(0,(zi 1)),(4,b)] fun b=>CP bh [a,b] h fun a h=>Q a h) (bZ b 2 (zo 1 h c fun b=>lL 53 [(0,(zi 2)),(5,b)] fun b=>CP bh [a,b] h fun a h=>Q a h) (bZ b 10 (zo 1 h c fun b=>CP uV [b] h fun b h=>ze b 0 fun c=>ze b 1 fun b=>lL 53 [(0,(zi 4)),(1,c)] fun b=>CP bh [a,b] h fun a h=>Q a h) (bZ b 5 (za 6 h c fun b=>CP c_ [a,b,(.func (.func cy) ⟨[a]⟩ ⟨[]⟩)] h fun b h=>CP cZ [a,(zi 6)] h fun a h=>Q b h) (bZ b 3 (za 6 h c fun b=>CP lE [a,b] h fun a h=>Q a h) (za 6 h c fun b=>CP bV [a,b,(zi 10)] h fun a h=>Q a h))))))
end
variable{a b c d e f g i j k l m n o p q r s t u v w x y z A C D E F G L M N O P R S U V W Y Z:Value}{h:H}{Q:KQ}
theorem DG(X:AI a b h Q):aj PP dY [a,b] h Q:=okF Tryz.f85 ⟨46,[],[]⟩ X
theorem P1(X:RK a b h Q):aj PP sw [a,b] h Q:=okF Tryz.f86 ⟨68,[(0,([5,6,7,23,24],[7])),(2,([5,6,7,8,9,23,24,28,29],[5,6,7,8,9,23,24]))],[]⟩ X
theorem DQ(X:AN a b h Q):aj PP gv [a,b] h Q:=okF Tryz.f87 ⟨17,[],[]⟩ X
theorem Ns(X:Nt a h Q):aj PP sN [a] h Q:=okF Tryz.f88 ⟨56,[(2,([3,9,37,38],[9])),(0,([0,3],[2,3]))],[]⟩ X
theorem Cg(X:yG a b h Q):aj PP oU [a,b] h Q:=okF Tryz.f89 ⟨125,[(3,([7,8,9],[9]))],[]⟩ X
theorem GY(X:EI a h Q):aj PP uU [a] h Q:=okF Tryz.f90 ⟨38,[],[]⟩ X
theorem Fy(X:Ci a h Q):aj PP sR [a] h Q:=okF Tryz.f91 ⟨40,[],[]⟩ X
theorem GQ(X:EF h Q):aj PP py [] h Q:=okF Tryz.f92 ⟨2,[],[]⟩ X
theorem LB(X:Ka a h Q):aj PP mY [a] h Q:=okF Tryz.f93 ⟨18,[],[]⟩ X
theorem NQ(X:NR a h Q):aj PP s0 [a] h Q:=okF Tryz.f94 ⟨27,[],[]⟩ X
theorem Mg(X:Kr a b h Q):aj PP zk [a,b] h Q:=okF Tryz.f95 ⟨14,[],[]⟩ X
theorem ya(X:s_ a b h Q):aj PP kv [a,b] h Q:=okF Tryz.f96 ⟨8,[],[]⟩ X
theorem Cd(X:yE a h Q):aj PP kO [a] h Q:=okF Tryz.f97 ⟨21,[(0,([0,6,7,8],[0,2]))],[]⟩ X
theorem Lw(X:J7 a h Q):aj PP yO [a] h Q:=okF Tryz.f98 ⟨56,[(1,([0,4],[4])),(3,([0,4,5,6,7,30,31,32],[0,4,5,6,7]))],[]⟩ X
theorem NJ(X:NK a b h Q):aj PP wM [a,b] h Q:=okF Tryz.f99 ⟨58,[],[]⟩ X
theorem I5(X:G5 a b h Q):aj PP kQ [a,b] h Q:=okF Tryz.f100 ⟨14,[],[]⟩ X
theorem rZ(X:lW a b h Q):aj PP fU [a,b] h Q:=okF Tryz.f101 ⟨23,[],[]⟩ X
theorem ng(X:iI a b h Q):aj PP ca [a,b] h Q:=okF Tryz.f102 ⟨18,[],[]⟩ X
theorem GI(X:EC a h Q):aj PP uQ [a] h Q:=okF Tryz.f103 ⟨22,[(0,([0,6,7,8],[0,2]))],[]⟩ X
theorem GU(X:EG a h Q):aj PP pB [a] h Q:=okF Tryz.f104 ⟨8,[],[]⟩ X
theorem w8(X:rI a h Q):aj PP jZ [a] h Q:=okF Tryz.f105 ⟨55,[],[]⟩ X
end
end Go.Proofs.YtikojelnedfmpaaGreatDoor
namespace Go.Proofs.YtikojelnedfmpaaGreatDoor
open Go Go.X
set_option maxRecDepth 1000000
noncomputable section
section
variable(Q:KQ)(I J K T B:KI)(a b c d e f g i j k l m n o p q r s t u v w x y z A C D E F G L M N O P R S U V W Y Z:Value)(h:H)
def eE:=aq (aG j (af (aO EE h 9 a (some f) none none) fun a=>CP jJ [a,b] h fun a h=>Bc a 0 (Q (.int .i64 (-1)) h) (oB f a fun a=>Q a h)) (I [a,b,c,d,e,f,g,i] h))
def iT:=aq (aG j (af (aO EE h 9 a (some f) none none) fun a=>CP iS [a,b] h fun a h=>IN a 0 (oB a f fun a=>Q a h) (Q (.int .i64 (-1)) h)) (zc h Aj fun j=>zgt c j fun j=>aH j true (zb .shr 3 f (.int .u64 4) fun j=>oB (zi 4) j fun j=>zge i j fun j=>aH j true (zls f g fun j=>eE Q I a b c d e f g i j h) (eE Q I a b c d e f g i zf h)) (eE Q I a b c d e f g i zf h)))
def iU:=aq (aG j (Q f h) (cM f 1 fun f=>cM i 1 fun i=>zc h Aj fun j=>zle c j fun j=>aH j true (CP tF [f] h fun j h=>zgt i j fun j=>iT Q I a b c d e f g i j h) (iT Q I a b c d e f g i zf h)))
def iV:=aq (cM f 1 fun j=>zy a j fun j=>zb .eql 5 j e fun j=>aH j true (oB f c fun j=>af (aO EE h 9 a (some f) (some j) none) fun j=>zb .eql 9 j b fun j=>iU Q I a b c d e f g i j h) (iU Q I a b c d e f g i zf h))
def pq:=aq (j0 f g (zy a f fun j=>Bb .neq 5 j d (cM f 1 fun j=>af (aO EE h 9 a (some j) (some g) none) fun j=>CP cG [j,d] h fun j h=>Bc j 0 (Q (.int .i64 (-1)) h) (cM j 1 fun j=>oB f j fun f=>iV Q I a b c d e f g i h)) (iV Q I a b c d e f g i h)) (Q (.int .i64 (-1)) h))
def iW:=aq (aG d (CP iS [a,b] h fun a h=>Q a h) (zy b (zi 0) fun d=>zy b (zi 1) fun e=>cF 9 h a fun f h=>M1 f c fun f=>cM f 1 fun f=>zl8 (pq Q) [a,b,c,d,e,(zi 0),f,(zi 0)] h))
def eP:=aq (aG d (Q (zi 0) h) (bZ c 1 (zy b (zi 0) fun b=>CP cG [a,b] h fun a h=>Q a h) (cF 9 h a fun d h=>Aa9 c d (Q (.int .i64 (-1)) h) (zc h Aj fun d=>zle c d fun d=>aH d true (cF 9 h a fun d h=>yg d 64 fun d=>iW Q a b c d h) (iW Q a b c zf h)))))
def pN:=aq (Q a h)
def qE:=aq (Q a h)
def eL:=aq (aG e (Q zf h) (cM d 1 fun d=>I [a,b,c,d] h))
def vg:=aq (Q a h)
def xd:=aq (j0 d c (zx 1 b d fun e=>zc h e fun e=>zb .lss 5 e (zu 65) fun f=>aH f false (zb .gtr 5 e (zu 90) fun f=>aH f true (tS d 0 fun f=>aH f false (zb .lss 5 e (zu 48) fun f=>aH f false (zb .gtr 5 e (zu 57) fun e=>eL Q I a b c d e h) (eL Q I a b c d zt h)) (eL Q I a b c d zt h)) (eL Q I a b c d zf h)) (tS d 0 fun f=>aH f false (zb .lss 5 e (zu 48) fun f=>aH f false (zb .gtr 5 e (zu 57) fun e=>eL Q I a b c d e h) (eL Q I a b c d zt h)) (eL Q I a b c d zt h))) (zb .neq 9 a zs fun b=>aH b true (cF 9 h a fun a h=>yg a 12 fun a=>vg Q a h) (vg Q zf h)))
def uX:=aq (Q a h)
def uY:=aq (Q a h)
def nI:=aq (aG b (Q zf h) (zo 1 h a fun b=>Bb .eql 9 b zs (zo 0 h a fun b=>tG b fun b=>aH b true (zo 2 h a fun a=>zb .eql 9 a (.string (bs [1])) fun a=>uX Q a h) (uX Q zf h)) (zo 2 h a fun b=>zb .eql 9 b (.string (bs [1])) fun b=>aH b false (zo 1 h a fun b=>zo 2 h a fun a=>CP rR [b,a] h fun a h=>zb .eql 9 a (.string (bs [1])) fun a=>uY Q a h) (uY Q zt h))))
def sG:=aq (cF 9 h a fun c h=>rL c 0 (cF 9 h a fun c h=>oJ c 4 fun c=>blt EE h .max #[3,3] [(zi 0),c] fun c h=>af (aO EE h 9 a (some c) none none) fun d=>CP tV [d] h fun d h=>ze d 0 fun e=>ze d 1 fun d=>af (aT EE h 132 160 e) fun d=>gh EE d.2 156 1 [(0,d.1)] fun d h=>ir EE h #[156,156] b d fun b h=>af (aO EE h 9 a none (some c) none) fun a=>I [a,b] h) (Q b h))
def eh(Q:KQ)(I:KI)(a:Value)(b:Value)(c:Value)(d:Value)(e:Value)(f:Value)(g:Value)(h:H):=aq (af (aT EE h 132 160 g) fun g=>zx 1 e f fun i=>bW 1 g.2 i g.1 fun h=>oJ f 1 fun f=>I [a,b,c,d,e,f] h)
def jU:=aq (IN f 0 (oB f d fun g=>zx 1 c g fun g=>zc h g fun g=>af ((aT EE h 160 132 g).bind fun a=>some a.1) fun g=>oB f d fun i=>oJ i 1 fun i=>zx 1 c i fun i=>zc h i fun i=>af ((aT EE h 160 132 i).bind fun a=>some a.1) fun i=>oB f d fun j=>oJ j 2 fun j=>zx 1 c j fun j=>zc h j fun j=>af ((aT EE h 160 132 j).bind fun a=>some a.1) fun j=>oJ d 1 fun k=>zx 1 a k fun k=>zc h k fun k=>af ((aT EE h 160 132 k).bind fun a=>some a.1) fun k=>oJ d 2 fun l=>zx 1 a l fun l=>zc h l fun l=>af ((aT EE h 160 132 l).bind fun a=>some a.1) fun l=>CP sH [g,i,j,k,l] h fun g h=>CP lu [c,a,g,f] h fun i h=>tG i fun i=>aG i (zb .sub 132 g (.int .u64 1) fun g=>CP ly [c,a,f] h fun i h=>eh Q I a b c d e f g h) (eh Q I a b c d e f g h)) (af (aO EE h 156 c none (some d) none) fun a=>CP lk [a,b] h fun a h=>Q (.tuple ⟨[e,a]⟩) h))
def wm(Q:KQ)(I:KI)(J:KI)(a:Value)(b:Value)(c:Value)(d:Value)(e:Value)(f:Value)(g:Value)(h:H):=aq (j0 g f (zx 1 e g fun i=>zc h i fun i=>zb .shl 160 d (.int .u64 8) fun d=>af (aT EE h 5 160 i) fun i=>zb .or 160 d i.1 fun d=>cM g 1 fun g=>J [a,b,c,d,e,f,g] i.2) (gh EE h 162 1 [(0,d)] fun d h=>ir EE h #[162,162] b d fun b h=>af (aO EE h 9 a none (some c) none) fun a=>I [a,b] h))
def yi:=aq (cF 9 h a fun c h=>rL c 0 (cF 9 h a fun c h=>oJ c 4 fun c=>blt EE h .max #[3,3] [(zi 0),c] fun c h=>af (aO EE h 9 a (some c) none none) fun d=>af (aT EE h 9 90 d) fun d=>cF 90 d.2 d.1 fun e h=>zl7 (wm Q I) [a,b,c,(.int .u32 0),d.1,e,(zi 0)] h) (CP mf [b] h fun a h=>Q a h))
def fT:=aq (aG f (Q (.tuple ⟨[zs,(zi 9)]⟩) h) (oJ e 1 fun e=>I [a,b,c,d,e] h))
def sX:=aq (IN e 0 (zc h c fun f=>DP d [f] h fun f h=>tG f fun f=>aH f false (zb .shr 3 b e fun f=>PS .and 3 f 1 fun f=>tS f 1 fun f=>aH f true (DP d [a] h fun f h=>tG f fun f=>fT Q I a b c d e f h) (fT Q I a b c d e zf h)) (fT Q I a b c d e zt h)) (zc h c fun a=>Q (.tuple ⟨[a,(zi 0)]⟩) h))
def pD:=aq (aG c (Q (.tuple ⟨[a,(zi 0)]⟩) h) (rL b 8192 (Q (.tuple ⟨[zs,(zi 9)]⟩) h) (CP gB [(.int .u64 1)] h fun c h=>cq h 9 [zs] fun d h=>bW 1 h d c fun h=>af (aT EE h 3 165 b) fun c=>CP mn [c.1] c.2 fun c h=>oJ c 1 fun c=>Y_ (sX Q) [a,b,d,(.func (.func fS) ⟨[]⟩ ⟨[d]⟩),c] h)))
def uR:=aq (j0 e d (oJ b 1 fun f=>M1 f e fun f=>zb .rem 132 a (.int .u64 10) fun g=>zb .add 132 (.int .u64 48) g fun g=>af (aT EE h 132 5 g) fun g=>zx 1 c f fun f=>bW 1 g.2 f g.1 fun h=>zb .quo 132 a (.int .u64 10) fun a=>cM e 1 fun e=>I [a,b,c,d,e] h) (af (aT EE h 90 9 c) fun a=>Q a.1 a.2))
def gy:=aq (aG c (zy b (zi 0) fun b=>CP ft [a,b] h fun a h=>Q a h) (CP xL [b] h fun c h=>ze c 0 fun d=>ze c 1 fun c=>cq h 199 [zf,zf,zf,zf,zf,zf,zf,zf,zf,zf,zf,zf,zf,zf,zf,zf,zf,zf,zf,zf,zf,zf,zf,zf,zf,zf,zf,zf,zf,zf,zf,zf,zf,zf,zf,zf,zf,zf,zf,zf,zf,zf,zf,zf,zf,zf,zf,zf,zf,zf,zf,zf,zf,zf,zf,zf,zf,zf,zf,zf,zf,zf,zf,zf,zf,zf,zf,zf,zf,zf,zf,zf,zf,zf,zf,zf,zf,zf,zf,zf,zf,zf,zf,zf,zf,zf,zf,zf,zf,zf,zf,zf,zf,zf,zf,zf,zf,zf,zf,zf,zf,zf,zf,zf,zf,zf,zf,zf,zf,zf,zf,zf,zf,zf,zf,zf,zf,zf,zf,zf,zf,zf,zf,zf,zf,zf,zf,zf,zf,zf,zf,zf,zf,zf,zf,zf,zf,zf,zf,zf,zf,zf,zf,zf,zf,zf,zf,zf,zf,zf,zf,zf,zf,zf,zf,zf,zf,zf,zf,zf,zf,zf,zf,zf,zf,zf,zf,zf,zf,zf,zf,zf,zf,zf,zf,zf,zf,zf,zf,zf,zf,zf,zf,zf,zf,zf,zf,zf,zf,zf,zf,zf,zf,zf,zf,zf,zf,zf,zf,zf,zf,zf,zf,zf,zf,zf,zf,zf,zf,zf,zf,zf,zf,zf,zf,zf,zf,zf,zf,zf,zf,zf,zf,zf,zf,zf,zf,zf,zf,zf,zf,zf,zf,zf,zf,zf,zf,zf,zf,zf,zf,zf,zf,zf,zf,zf,zf,zf,zf,zf,zf,zf,zf,zf,zf,zf] fun e h=>bW 256 h e d fun h=>aG c (CP v_ [a,e] h fun a h=>Q a h) (CP tQ [a,b] h fun a h=>Q a h)))
def dV:=aq (aG c (Q a h) (cF 9 h b fun c h=>tS c 1 fun c=>aH c true (zy b (zi 0) fun c=>zb .lss 5 c (zu 128) fun c=>gy Q a b c h) (gy Q a b zf h)))
def wH:=aq (za 3 h a fun a=>lL 103 [(0,(zi 1)),(1,a)] fun a=>bW 7 h b a fun h=>zr b 103 h Q MU)
def l8:=aq (aG e (Q zf h) (cM d 1 fun d=>I [a,b,c,d] h))
def l_:=aq (aG b (Q zf h) (CP ry [a] h fun a h=>tG a fun a=>Q a h))
def vk:=aq (j0 d c (zx 1 b d fun e=>zc h e fun e=>CP oe [e] h fun f h=>tG f fun f=>aH f true (CP uC [e] h fun f h=>tG f fun f=>aH f true (zb .neq 5 e (zu 95) fun e=>l8 Q I a b c d e h) (l8 Q I a b c d zf h)) (l8 Q I a b c d zf h)) (CP vj [a] h fun a h=>zb .eql 9 a (.string (bs [84,82,85,69])) fun b=>aG b (l_ Q a b h) (zb .eql 9 a (.string (bs [70,65,76,83,69])) fun b=>l_ Q a b h)))
def jB:=aq (aG b (Q zf h) (af (aT EE h 9 90 a) fun b=>cF 90 b.2 b.1 fun c h=>VM (vk Q) [a,b.1,c,(zi 0)] h))
def Bm:=aq (Q a h)
def sZ:=aq (Q a h)
end
section
variable(a b c d e f g i j k l m n o p q r s t u v w x y z A C D E F G L M N O P R S U V W Y Z:Value)(h:H)(Q:KQ)
def kr:=aq (cF 9 h b fun c h=>tS c 0 fun d=>aH d false (zb .eql 9 b a fun d=>eP Q a b c d h) (eP Q a b c zt h))
def HA:=aq (dW h 42 a fun a h=>za 3 h a fun b=>CP kq [b] h fun b h=>ze b 0 fun c=>ze b 1 fun b=>za 3 h a fun c=>CP qt [c] h fun c h=>aH c true (zo 0 h a fun a=>tG a fun a=>aH a true (pN Q b h) (pN Q zf h)) (pN Q zf h))
def So:=aq (dW h 51 a fun a h=>dW h 51 b fun b h=>zo 1 h a fun c=>zo 2 h a fun d=>zo 1 h b fun e=>zo 2 h b fun f=>lL 182 [(0,c),(1,d),(2,e),(3,f)] fun c=>cq h 182 [(zi 0),(zi 0),(zi 0),(zi 0)] fun d h=>bW 4 h d c fun h=>za 4 h d fun c=>CP o6 [c] h fun c h=>BU c 0 fun c=>aH c true (za 5 h a fun a=>CP mY [a] h fun a h=>aH a true (za 5 h b fun a=>CP mY [a] h fun a h=>aH a true (zo 0 h b fun a=>zb .eql 9 a zs fun a=>qE Q a h) (qE Q zf h)) (qE Q zf h)) (qE Q zf h))
def Kn:=aq (af (aT EE h 9 90 a) fun b=>cF 90 b.2 b.1 fun c h=>VM (xd Q) [a,b.1,c,(zi 0)] h)
def NE:=aq (CP dh [a] h fun a h=>CP uf [a,(.int .u64 2)] h fun b h=>CP uf [a,(.int .u64 5)] h fun a h=>Q (.tuple ⟨[b,a]⟩) h)
def JY:=aq (dW h 42 a fun a h=>zo 1 h a fun b=>CP wJ [b] h fun b h=>tG b fun b=>aH b false (zo 2 h a fun b=>CP wJ [b] h fun b h=>tG b fun b=>aH b false (zo 2 h a fun b=>zb .eql 9 b zs fun b=>nI Q a b h) (nI Q a zt h)) (nI Q a zt h))
def Wq:=aq (cq h 42 [zf,zs,zs] fun b h=>CP Bk [a] h fun a h=>cq h 142 [zf,zs] fun c h=>bW 2 h c a fun h=>zo 0 h c fun a=>zo 1 h c fun c=>lL 42 [(0,a),(1,c),(2,(.string (bs [1])))] fun a=>bW 3 h b a fun h=>zr b 42 h Q MU)
def EA:=aq (CP dh [a] h fun a h=>VK (sG Q) [a,zn] h)
def RH:=aq (CP jg [a] h fun a h=>CP jg [b] h fun b h=>CP qT [a,b] h fun a h=>Q a h)
def M6:=aq (CP fK [a,(.string (bs [0]))] h fun a h=>Q a h)
def sI:=aq (dW h 160 b fun b h=>cF 156 h a fun c h=>af (vU EE h 156 c c) fun c=>cq c.2 156 [zn] fun d h=>bW 1 h d c.1 fun h=>cq h 132 [(.int .u64 0)] fun c h=>bW 1 h c (.int .u64 0) fun h=>CP b_ [a] h fun a h=>uN PP a 2 (fun a e f g=>f e fun e=>zc e c fun f=>zb .shl 132 f (.int .u64 32) fun f=>af (aT EE e 160 132 (aI a 1)) fun e=>zb .or 132 f e.1 fun f=>zc e.2 d fun d=>zc e.2 b fun i=>af ((aT EE e.2 160 132 i).bind fun a=>some a.1) fun i=>zb .quo 132 f i fun i=>af ((aT EE e.2 132 160 i).bind fun a=>some a.1) fun i=>zx 1 d (aI a 0) fun a=>bW 1 e.2 a i fun h=>zc h b fun a=>af (aT EE h 160 132 a) fun a=>zb .rem 132 f a.1 fun b=>bW 1 a.2 c b fun h=>g .normal h) h (fun a b=>onJ a (zc b d fun a=>zc b c fun c=>af ((aT EE b 132 160 c).bind fun a=>some a.1) fun c=>gh EE b 156 1 [(0,c)] fun b h=>(aw h d)=some a∧Q (.tuple ⟨[a,b]⟩) h) [] (Q (.tuple ⟨[zn,zn]⟩) b)))
def ua:=aq (cF 156 h b fun c h=>oJ c 1 fun c=>zx 1 b c fun c=>zc h c fun c=>CP fP [c] h fun c h=>CP fy [a,c] h fun d h=>CP fy [b,c] h fun e h=>cF 156 h b fun b h=>af (aO EE h 156 e none (some b) none) fun b=>cF 156 h b fun e h=>cF 156 h a fun f h=>M1 f e fun f=>cM f 1 fun f=>af (vU EE h 156 f f) fun f=>cF 156 f.2 a fun a h=>M1 a e fun a=>zl6 (jU Q) [b,c,d,e,f.1,a] h)
def tX:=aq (cq h 90 [zn] fun b h=>CP b_ [a] h fun a h=>uN PP a 2 (fun a c d e=>d c fun c=>zc c b fun d=>zb .shr 160 (aI a 1) (.int .u64 24) fun f=>af (aT EE c 160 5 f) fun c=>zb .shr 160 (aI a 1) (.int .u64 16) fun f=>af (aT EE c.2 160 5 f) fun f=>zb .shr 160 (aI a 1) (.int .u64 8) fun g=>af (aT EE f.2 160 5 g) fun g=>af (aT EE g.2 160 5 (aI a 1)) fun a=>gh EE a.2 90 4 [(0,c.1),(1,f.1),(2,g.1),(3,a.1)] fun a h=>ir EE h #[90,90] d a fun a h=>bW 1 h b a fun h=>e .normal h) h (fun a c=>onJ a (zc c b fun a=>af (aT EE c 90 9 a) fun a=>CP dh [a.1] a.2 fun a h=>Q a h) [] (Q zs c)))
def M8:=aq (VK (yi Q) [a,zn] h)
def B8:=aq (cF 162 h a fun c h=>Aa9 b c (Q (.int .u64 0) h) (zx 1 a b fun a=>zc h a fun a=>af (aT EE h 160 132 a) fun a=>Q a.1 a.2))
def yl:=aq (cq h 90 [zn] fun b h=>CP mf [a] h fun a h=>CP ct [a] h fun a h=>uN PP a 2 (fun a c d e=>d c fun c=>zc c b fun d=>zb .shr 160 (aI a 1) (.int .u64 24) fun f=>af (aT EE c 160 5 f) fun c=>zb .shr 160 (aI a 1) (.int .u64 16) fun f=>af (aT EE c.2 160 5 f) fun f=>zb .shr 160 (aI a 1) (.int .u64 8) fun g=>af (aT EE f.2 160 5 g) fun g=>af (aT EE g.2 160 5 (aI a 1)) fun a=>gh EE a.2 90 4 [(0,c.1),(1,f.1),(2,g.1),(3,a.1)] fun a h=>ir EE h #[90,90] d a fun a h=>bW 1 h b a fun h=>e .normal h) h (fun a c=>onJ a (zc c b fun a=>af (aT EE c 90 9 a) fun a=>CP dh [a.1] a.2 fun a h=>Q a h) [] (Q zs c)))
def G9:=aq (CP dh [a] h fun a h=>Bc b 0 (Q (.tuple ⟨[zs,(zi 2)]⟩) h) (bZ b 0 (CP gB [(.int .u64 1)] h fun a h=>Q (.tuple ⟨[a,(zi 0)]⟩) h) (zb .eql 9 a zs fun c=>aH c false (CP gB [(.int .u64 1)] h fun c h=>zb .eql 9 a c fun c=>pD Q a b c h) (pD Q a b zt h))))
def VY:=aq (af (aT EE h 132 160 a) fun b=>zb .shr 132 a (.int .u64 32) fun a=>af (aT EE b.2 132 160 a) fun a=>gh EE a.2 162 2 [(0,b.1),(1,a.1)] fun a h=>CP iC [a] h fun a h=>Q a h)
def JR:=aq (CP jg [a] h fun a h=>cF 162 h a fun b h=>rL b 2 (Q (.tuple ⟨[(.int .u64 0),zf]⟩) h) (CP dK [a,(zi 1)] h fun b h=>zb .shl 132 b (.int .u64 32) fun b=>CP dK [a,(zi 0)] h fun a h=>zb .or 132 b a fun a=>Q (.tuple ⟨[a,zt]⟩) h))
def GK:=aq (af (vU EE h 90 b b) fun c=>Y_ (uR Q) [a,b,c.1,b,(zi 0)] c.2)
def oP:=aq (zb .eql 9 a zs fun c=>aH c false (zb .eql 9 b zs fun c=>dV Q a b c h) (dV Q a b zt h))
def AJ:=aq (aG zf (af (aT EE h 165 160 a) fun a=>af (aT EE a.2 165 160 b) fun b=>CP Dm [a.1,b.1] b.2 fun a h=>ze a 0 fun b=>ze a 1 fun a=>af (aT EE h 160 165 b) fun b=>af (aT EE b.2 160 165 a) fun a=>Q (.tuple ⟨[b.1,a.1]⟩) a.2) (CP nG [a,b] h fun a h=>ze a 0 fun b=>ze a 1 fun a=>Q (.tuple ⟨[b,a]⟩) h))
def rF:=aq (af (db a) fun a=>zo 1 h a fun a=>cF 90 h a fun a h=>Q a h)
def JX:=aq (dW h 42 a fun a h=>cq h 103 [(zi 0),zf,zs,zs,zs,zf,(zi 0)] fun b h=>za 3 h a fun c=>CP qt [c] h fun c h=>tG c fun c=>aG c (CP Cl [(zi 0)] h fun c h=>bW 3 h a c fun h=>wH Q a b h) (wH Q a b h))
def Ku:=aq (zb .eql 9 a zs fun b=>aH b false (cF 9 h a fun b h=>BU b 12 fun b=>aH b false (zy a (zi 0) fun b=>CP oe [b] h fun b h=>tG b fun b=>jB Q a b h) (jB Q a zt h)) (jB Q a zt h))
def RV:=aq (CP jN [a,(zi 52)] h fun a h=>aH a true (CP jN [b,(zi 99)] h fun a h=>Bm Q a h) (Bm Q zf h))
def EO:=aq (PG a 1 fun c=>aH c true (zle a b fun a=>sZ Q a h) (sZ Q zf h))
def CN:=aq (CP nc [a] h fun a h=>Q a h)
def ig:=aq (CP ca [a,b] h fun c h=>aG c (cF 9 h b fun b h=>af (aO EE h 9 a (some b) none none) fun a=>Q a h) (Q a h))
end
variable{a b c d e f g i j k l m n o p q r s t u v w x y z A C D E F G L M N O P R S U V W Y Z:Value}{h:H}{Q:KQ}
theorem qu(X:kr a b h Q):aj PP de [a,b] h Q:=okF Tryz.f115 ⟨143,[(1,([0,1,5,6,7,8,9,10],[4]))],[]⟩ X
theorem Jo(X:HA a h Q):aj PP xa [a] h Q:=okF Tryz.f117 ⟨20,[],[]⟩ X
theorem QB(X:So a b h Q):aj PP D2 [a,b] h Q:=okF Tryz.f118 ⟨31,[],[]⟩ X
theorem L'(X:Kn a h Q):aj PP y_ [a] h Q:=okF Tryz.f119 ⟨39,[(0,([0,6,7,8],[0,2]))],[]⟩ X
theorem ND(X:NE a h Q):aj PP Bj [a] h Q:=okF Tryz.f122 ⟨10,[],[]⟩ X
theorem Lp(X:JY a h Q):aj PP qt [a] h Q:=okF Tryz.f123 ⟨42,[],[]⟩ X
theorem Ud(X:Wq a h Q):aj PP Cl [a] h Q:=okF Tryz.f124 ⟨11,[],[]⟩ X
theorem Gz(X:EA a h Q):aj PP pv [a] h Q:=okF Tryz.f125 ⟨32,[(0,([0,3],[3]))],[]⟩ X
theorem PZ(X:RH a b h Q):aj PP Dy [a,b] h Q:=okF Tryz.f126 ⟨10,[],[]⟩ X
theorem M5(X:M6 a h Q):aj PP dh [a] h Q:=okF Tryz.f127 ⟨5,[],[]⟩ X
theorem x_(X:sI a b h Q):aj PP kg [a,b] h Q:=okF Tryz.f128 ⟨39,[],[]⟩ X
theorem yA(X:ua a b h Q):aj PP lz [a,b] h Q:=okF Tryz.f129 ⟨103,[(0,([1,6,7,8,9,10],[6,7,8,9]))],[]⟩ X
theorem yv(X:tX a h Q):aj PP iv [a] h Q:=okF Tryz.f130 ⟨27,[],[]⟩ X
theorem M7(X:M8 a h Q):aj PP jg [a] h Q:=okF Tryz.f131 ⟨39,[(0,([0,3],[3])),(2,([0,3,4,5,18,19,20],[0,3,4,5]))],[]⟩ X
theorem Fs(X:B8 a b h Q):aj PP dK [a,b] h Q:=okF Tryz.f132 ⟨14,[],[]⟩ X
theorem B9(X:yl a h Q):aj PP iC [a] h Q:=okF Tryz.f133 ⟨28,[],[]⟩ X
theorem I6(X:G9 a b h Q):aj PP wK [a,b] h Q:=okF Tryz.f134 ⟨58,[(1,([0,1,6,7,8],[4,5,6]))],[]⟩ X
theorem TE(X:VY a h Q):aj PP gB [a] h Q:=okF Tryz.f135 ⟨10,[],[]⟩ X
theorem K7(X:JR a h Q):aj PP tV [a] h Q:=okF Tryz.f136 ⟨16,[],[]⟩ X
theorem IX(X:GK a b h Q):aj PP wA [a,b] h Q:=okF Tryz.f137 ⟨28,[(0,([0,1,5,9,10],[5]))],[]⟩ X
theorem rE(X:oP a b h Q):aj PP fK [a,b] h Q:=okF Tryz.f138 ⟨37,[],[]⟩ X
theorem DI(X:AJ a b h Q):aj PP mj [a,b] h Q:=okF Tryz.f139 ⟨30,[],[]⟩ X
theorem wE(X:rF a h Q):aj PP ei [a] h Q:=okF Tryz.f140 ⟨8,[],[]⟩ X
theorem Ll(X:JX a h Q):aj PP yJ [a] h Q:=okF Tryz.f141 ⟨9,[],[]⟩ X
theorem Mj(X:Ku a h Q):aj PP qH [a] h Q:=okF Tryz.f142 ⟨48,[(0,([0,20,21,22],[0,2]))],[]⟩ X
theorem Qi(X:RV a b h Q):aj PP mX [a,b] h Q:=okF Tryz.f143 ⟨11,[],[]⟩ X
theorem He(X:EO a b h Q):aj PP jN [a,b] h Q:=okF Tryz.f144 ⟨12,[],[]⟩ X
theorem FJ(X:CN a h Q):aj PP tq [a] h Q:=okF Tryz.f145 ⟨5,[],[]⟩ X
theorem mF(X:ig a b h Q):aj PP gm [a,b] h Q:=okF Tryz.f146 ⟨13,[],[]⟩ X
end
end Go.Proofs.YtikojelnedfmpaaGreatDoor
namespace Go.Proofs.YtikojelnedfmpaaGreatDoor
open Go Go.X
set_option maxRecDepth 1000000
noncomputable section
section
variable(Q:KQ)(I J K T B:KI)(a b c d e f g i j k l m n o p q r s t u v w x y z A C D E F G L M N O P R S U V W Y Z:Value)(h:H)
def yD:=aq (aG d (Q zt h) (cM c 1 fun c=>I [a,b,c] h))
def Bg:=aq (j0 c b (zx 1 a c fun d=>zc h d fun d=>zb .lss 5 d (zu 48) fun e=>aH e false (zb .gtr 5 d (zu 57) fun d=>yD Q I a b c d h) (yD Q I a b c zt h)) (Q zf h))
def yp:=aq (j0 f e (CP dK [a,f] h fun g h=>CP dK [b,f] h fun i h=>zb .add 132 g i fun g=>zb .add 132 g d fun d=>af (aT EE h 132 160 d) fun g=>gh EE g.2 162 1 [(0,g.1)] fun g h=>ir EE h #[162,162] c g fun c h=>zb .shr 132 d (.int .u64 32) fun d=>cM f 1 fun f=>I [a,b,c,d,e,f] h) (af (aT EE h 132 160 d) fun a=>gh EE a.2 162 1 [(0,a.1)] fun a h=>ir EE h #[162,162] c a fun a h=>CP iC [a] h fun a h=>Q a h))
def uP:=aq (Q a h)
def uO:=aq (Bb .neq 9 b zs (CP dY [a,b] h fun c h=>ze c 0 fun d=>ze c 1 fun d=>ze c 2 fun c=>tR .neq 26 c 0 (uP Q a h) (I [b,d] h)) (uP Q a h))
def jE:=aq (aG e (Q (.tuple ⟨[b,zt]⟩) h) (cM d 1 fun b=>I [a,c,b] h))
def sU:=aq (Bc c 8 (af (Ua EE 8 1 9 b c) fun d=>BU c 0 fun e=>aH e true (zb .eql 9 d a fun d=>jE Q I a c b c d h) (jE Q I a c b c zf h)) (Q (.tuple ⟨[(zi 0),zf]⟩) h))
def gg:=aq (aG c (zo 1 h b fun b=>zb .eql 9 b (.string (bs [84,82,85,69])) fun b=>lL 53 [(0,(zi 3)),(6,b)] fun b=>CP bh [a,b] h fun a h=>Q a h) (za 6 h b fun b=>CP fm [a,zs,b] h fun a h=>Q a h))
def rV:=aq (Q a h)
def uZ:=aq (aG d (rV Q b h) (cM b 1 fun b=>I [c,a,b] h))
def wL:=aq (Bb .neq 9 a zs (CP gB [b] h fun d h=>CP dY [a,d] h fun a h=>ze a 0 fun d=>ze a 1 fun e=>ze a 2 fun a=>PS .neq 26 a 0 fun a=>aH a false (zb .neq 9 e zs fun a=>uZ Q I b c d a h) (uZ Q I b c d zt h)) (rV Q c h))
def yK:=aq (Q a h)
def iD:=aq (j0 g f (zx 1 e g fun i=>zc h i fun i=>af (aT EE h 160 132 i) fun i=>zb .shl 132 i.1 b fun j=>zb .or 132 j d fun d=>af (aT EE i.2 132 160 d) fun i=>zx 1 c g fun j=>bW 1 i.2 j i.1 fun h=>zb .shr 132 d (.int .u64 32) fun d=>cM g 1 fun g=>I [a,b,c,d,e,f,g] h) (cF 156 h a fun a h=>af (aT EE h 132 160 d) fun b=>zx 1 c a fun a=>bW 1 b.2 a b.1 fun h=>Q c h))
def mi:=aq (Q a h)
def iE:=aq (aG f (zb .sub 132 d (.int .u64 1) fun d=>zb .add 132 e b fun e=>zb .shr 132 e (.int .u64 32) fun f=>Bb .gtr 132 f (.int .u64 0) (mi Q d h) (I [a,b,c,d,e] h)) (mi Q d h))
def qU:=aq (zb .shr 132 d (.int .u64 32) fun f=>zb .gtr 132 f (.int .u64 0) fun f=>aH f false (zb .mul 132 d c fun f=>zb .shl 132 e (.int .u64 32) fun g=>zb .or 132 g a fun g=>zb .gtr 132 f g fun f=>iE Q I a b c d e f h) (iE Q I a b c d e zt h))
def ke:=aq (j0 i g (zx 1 b i fun j=>zc h j fun j=>af (aT EE h 160 132 j) fun j=>zb .mul 132 c j.1 fun k=>zb .add 132 k e fun e=>zb .shr 132 e (.int .u64 32) fun k=>oB d i fun l=>zx 1 a l fun l=>zc j.2 l fun l=>af (aT EE j.2 160 132 l) fun j=>zb .and 132 e (.int .u64 4294967295) fun e=>zb .sub 132 j.1 e fun e=>zb .sub 132 e f fun e=>oB d i fun f=>af (aT EE j.2 132 160 e) fun j=>zx 1 a f fun f=>bW 1 j.2 f j.1 fun h=>zb .shr 132 e (.int .u64 63) fun e=>cM i 1 fun f=>I [a,b,c,d,k,e,g,f] h) (cF 156 h b fun c h=>oB d c fun c=>zx 1 a c fun c=>zc h c fun c=>af (aT EE h 160 132 c) fun c=>zb .sub 132 c.1 e fun e=>zb .sub 132 e f fun e=>cF 156 c.2 b fun b h=>oB d b fun b=>af (aT EE h 132 160 e) fun c=>zx 1 a b fun a=>bW 1 c.2 a c.1 fun h=>zb .shr 132 e (.int .u64 63) fun a=>zb .eql 132 a (.int .u64 0) fun a=>Q a h))
def kf:=aq (j0 f e (oB c f fun g=>zx 1 a g fun g=>zc h g fun g=>af ((aT EE h 160 132 g).bind fun a=>some a.1) fun g=>zx 1 b f fun i=>zc h i fun i=>af ((aT EE h 160 132 i).bind fun a=>some a.1) fun i=>zb .add 132 g i fun g=>zb .add 132 g d fun d=>oB c f fun g=>af (aT EE h 132 160 d) fun i=>zx 1 a g fun g=>bW 1 i.2 g i.1 fun h=>zb .shr 132 d (.int .u64 32) fun d=>cM f 1 fun f=>I [a,b,c,d,e,f] h) (cF 156 h b fun b h=>oB c b fun b=>zx 1 a b fun c=>zc h c fun c=>af (aT EE h 132 160 d) fun d=>zb .add 160 c d.1 fun c=>zx 1 a b fun a=>bW 1 d.2 a c fun h=>Q (.tuple ⟨[]⟩) h))
def ef(Q:KQ)(I:KI)(a:Value)(b:Value)(c:Value)(d:Value)(e:Value)(f:Value)(g:Value)(h:H):=aq (zb .shr 132 e b fun e=>af (aT EE h 132 160 e) fun e=>zx 1 c d fun d=>bW 1 e.2 d e.1 fun h=>cM g 1 fun d=>I [a,b,c,f,d] h)
def kd:=aq (j0 e d (zx 1 a e fun f=>zc h f fun f=>af (aT EE h 160 132 f) fun f=>cM e 1 fun g=>cF 156 f.2 a fun i h=>j0 g i (cM e 1 fun g=>zx 1 a g fun g=>zc h g fun g=>af (aT EE h 160 132 g) fun g=>zb .shl 132 g.1 (.int .u64 32) fun i=>zb .or 132 f.1 i fun f=>ef Q I a b c e f d e g.2) (ef Q I a b c e f.1 d e h)) (Q c h))
def kI:=aq (aG b (cF 162 h a fun b h=>oJ b 1 fun b=>af (aO EE h 162 a none (some b) none) fun a=>I [a] h) (Q a h))
def oQ:=aq (cF 162 h a fun b h=>BU b 0 fun b=>aH b true (cF 162 h a fun b h=>oJ b 1 fun b=>zx 1 a b fun b=>zc h b fun b=>zb .eql 160 b (.int .u32 0) fun b=>kI Q I a b h) (kI Q I a zf h))
end
section
variable(a b c d e f g i j k l m n o p q r s t u v w x y z A C D E F G L M N O P R S U V W Y Z:Value)(h:H)(Q:KQ)
def RN:=aq (af (aT EE h 9 90 a) fun a=>cF 90 a.2 a.1 fun b h=>VL (Bg Q) [a.1,b,(zi 0)] h)
def RJ:=aq (CP jg [a] h fun a h=>CP jg [b] h fun b h=>cF 162 h a fun c h=>cF 162 h b fun d h=>blt EE h .max #[3,3] [c,d] fun c h=>zl6 (yp Q) [a,b,zn,(.int .u64 0),c,(zi 0)] h)
def GF:=aq (CP dh [a] h fun a h=>CP dh [b] h fun b h=>VK (uO Q) [a,b] h)
def EJ:=aq (CP py [] h fun b h=>VL (sU Q) [a,b,(zi 0)] h)
def uz:=aq (dW h 44 b fun b h=>CP cg [a,(zi 5)] h fun c h=>aG c (za 6 h b fun b=>CP lF [a,b] h fun a h=>Q a h) (CP cg [a,(zi 9)] h fun c h=>aG c (zo 1 h b fun c=>CP qH [c] h fun c h=>tG c fun c=>aG c (za 6 h b fun b=>CP bV [a,b,(zi 10)] h fun a h=>Q a h) (CP bO [a] h fun c h=>zp 1 b fun b=>zc h b fun c=>CP cZ [a,(zi 3)] h fun d h=>(aw h b)=some c∧CP fm [a,c,d] h fun a h=>Q a h)) (zo 1 h b fun c=>zb .eql 9 c (.string (bs [84,82,85,69])) fun c=>aH c false (zo 1 h b fun c=>zb .eql 9 c (.string (bs [70,65,76,83,69])) fun c=>gg Q a b c h) (gg Q a b zt h))))
def iH:=aq (CP aV [a,b] h fun a h=>Q a h)
def yT:=aq (dW h 182 a fun a h=>za 4 h a fun b=>CP oZ [b] h fun b h=>tG b fun b=>aG b (Q (zi 0) h) (za 4 h a fun a=>CP kT [a] h fun a h=>Q a h))
def J1:=aq (VL (wL Q) [a,b,(zi 0)] h)
def NC:=aq (cF 9 h a fun b h=>yg b 32 fun b=>aH b true (CP dh [a] h fun b h=>zb .eql 9 b a fun a=>yK Q a h) (yK Q zf h))
def NG:=aq (cq h 142 [zf,zs] fun b h=>tR .lss 2 a 0 (af (aT EE h 2 132 a) fun a=>af (X.unOp .neg a.1) fun c=>CP gB [c] a.2 fun a h=>CP kQ [zt,a] h fun a h=>bW 2 h b a fun h=>zr b 142 h Q MU) (af (aT EE h 2 132 a) fun a=>CP gB [a.1] a.2 fun a h=>CP kQ [zf,a] h fun a h=>bW 2 h b a fun h=>zr b 142 h Q MU))
def AG:=aq (dW h 162 b fun b h=>cq h 3 [(zi 0)] fun c h=>cF 162 h a fun d h=>zc h b fun e=>cF 162 h e fun e h=>Y' d e (cF 162 h a fun a h=>zc h b fun b=>cF 162 h b fun b h=>zgt a b fun a=>CP wu [a] h fun a h=>bW 1 h c a fun h=>zr c 3 h Q MU) (CP ct [a] h fun a h=>uN PP a 2 (fun a d e f=>e d fun d=>zc d b fun e=>zx 1 e (aI a 0) fun e=>zc d e fun e=>Bb .neq 160 (aI a 1) e (zc d b fun b=>zx 1 b (aI a 0) fun b=>zc d b fun b=>zb .gtr 160 (aI a 1) b fun a=>CP wu [a] d fun a h=>bW 1 h c a fun h=>f .ret h) (f .normal d)) h (fun a b=>onJ a (bW 1 b c (zi 0) fun h=>zr c 3 h Q MU) [] (zr c 3 b Q MU))))
def fh:=aq (dW h 156 a fun a h=>Q (.func (.func bw) ⟨[]⟩ ⟨[a]⟩) h)
def lT:=aq (CP j3 [a] h fun a h=>M1 (zi 32) a fun a=>Q a h)
def qe:=aq (cF 156 h a fun c h=>cM c 1 fun c=>af (vU EE h 156 c c) fun c=>cF 156 c.2 a fun d h=>zl7 (iD Q) [a,b,c.1,(.int .u64 0),a,d,(zi 0)] h)
def Cb:=aq (zb .shl 132 a (.int .u64 32) fun a=>zb .or 132 a b fun a=>zb .quo 132 a d fun b=>zb .rem 132 a d fun a=>Y_ (qU Q) [c,d,e,b,a] h)
def tZ:=aq (cF 156 h b fun e h=>zl8 (ke Q) [a,b,c,d,(.int .u64 0),(.int .u64 0),e,(zi 0)] h)
def t_:=aq (cF 156 h b fun d h=>zl6 (kf Q) [a,b,c,(.int .u64 0),d,(zi 0)] h)
def tY:=aq (cF 156 h a fun c h=>af (vU EE h 156 c c) fun c=>cF 156 c.2 a fun d h=>Y_ (kd Q) [a,b,c.1,d,(zi 0)] h)
def AD:=aq (zl1 (oQ Q) [a] h)
def gl:=aq (dW h 162 a fun a h=>Q (.func (.func bL) ⟨[]⟩ ⟨[a]⟩) h)
def Ck:=aq (zc h b fun c=>CP sw [c,a] h fun a h=>bW 1 h b a fun h=>zc h b fun a=>cF 9 h a fun a h=>yg a 1024 fun a=>Q a h)
def AL:=aq (aG zf (af (aT EE h 165 160 a) fun a=>CP j3 [a.1] a.2 fun a h=>Q a h) (CP uJ [a] h fun a h=>Q a h))
end
variable{a b c d e f g i j k l m n o p q r s t u v w x y z A C D E F G L M N O P R S U V W Y Z:Value}{h:H}{Q:KQ}
theorem P7(X:RN a h Q):aj PP DH [a] h Q:=okF Tryz.f147 ⟨19,[(0,([6,7,8],[2]))],[]⟩ X
theorem P0(X:RJ a b h Q):aj PP Dz [a,b] h Q:=okF Tryz.f148 ⟨46,[(0,([5,6,7,8,19,20],[7,8]))],[]⟩ X
theorem IV(X:GF a b h Q):aj PP rR [a,b] h Q:=okF Tryz.f149 ⟨26,[(0,([0,1],[0]))],[]⟩ X
theorem GZ(X:EJ a h Q):aj PP uV [a] h Q:=okF Tryz.f150 ⟨20,[(0,([0,6,7],[2,3]))],[]⟩ X
theorem y6(X:uz a b h Q):aj PP lE [a,b] h Q:=okF Tryz.f151 ⟨47,[],[]⟩ X
theorem nf(X:iH a b h Q):aj PP cG [a,b] h Q:=okF Tryz.f161 ⟨8,[],[]⟩ X
theorem Cy(X:yT a h Q):aj PP o6 [a] h Q:=okF Tryz.f165 ⟨8,[],[]⟩ X
theorem Lq(X:J1 a b h Q):aj PP uf [a,b] h Q:=okF Tryz.f166 ⟨29,[(0,([0,1,5],[5]))],[]⟩ X
theorem NB(X:NC a h Q):aj PP wJ [a] h Q:=okF Tryz.f167 ⟨12,[],[]⟩ X
theorem NF(X:NG a h Q):aj PP Bk [a] h Q:=okF Tryz.f168 ⟨14,[],[]⟩ X
theorem Dx(X:AG a b h Q):aj PP qT [a,b] h Q:=okF Tryz.f169 ⟨35,[],[]⟩ X
theorem j8(X:fh a h Q):aj PP b_ [a] h Q:=okF Tryz.f170 ⟨4,[],[]⟩ X
theorem rQ(X:lT a h Q):aj PP fP [a] h Q:=okF Tryz.f171 ⟨6,[],[]⟩ X
theorem vx(X:qe a b h Q):aj PP fy [a,b] h Q:=okF Tryz.f172 ⟨42,[(0,([0,1,5,6,14,15,16],[0,5,6]))],[]⟩ X
theorem Fu(X:Cb a b c d e h Q):aj PP sH [a,b,c,d,e] h Q:=okF Tryz.f173 ⟨46,[(0,([2,3,4,12,13],[12]))],[]⟩ X
theorem yx(X:tZ a b c d h Q):aj PP lu [a,b,c,d] h Q:=okF Tryz.f174 ⟨76,[(0,([0,1,2,3,9,10,16,17],[0,1,3,9,10]))],[]⟩ X
theorem yy(X:t_ a b c h Q):aj PP ly [a,b,c] h Q:=okF Tryz.f175 ⟨50,[(0,([0,1,2,6,10,11],[0,1,2,6]))],[]⟩ X
theorem yw(X:tY a b h Q):aj PP lk [a,b] h Q:=okF Tryz.f176 ⟨44,[(0,([0,1,5,12,13],[5]))],[]⟩ X
theorem Du(X:AD a h Q):aj PP mf [a] h Q:=okF Tryz.f177 ⟨21,[(0,([0],[0]))],[]⟩ X
theorem lj(X:gl a h Q):aj PP ct [a] h Q:=okF Tryz.f178 ⟨4,[],[]⟩ X
theorem FB(X:Ck a b h Q):aj PP fS [a,b] h Q:=okF Tryz.f179 ⟨10,[],[]⟩ X
theorem DN(X:AL a h Q):aj PP mn [a] h Q:=okF Tryz.f180 ⟨8,[],[]⟩ X
end
end Go.Proofs.YtikojelnedfmpaaGreatDoor
namespace Go.Proofs.YtikojelnedfmpaaGreatDoor
open Go Go.X
set_option maxRecDepth 1000000
noncomputable section
section
variable(Q:KQ)(I J K T B:KI)(a b c d e f g i j k l m n o p q r s t u v w x y z A C D E F G L M N O P R S U V W Y Z:Value)(h:H)
def dt:=aq (aG c (af (aO EE h 9 a (some (zi 1)) none none) fun a=>I [a,b] h) (Q a h))
def dq:=aq (cF 9 h a fun c h=>BU c 0 fun c=>aH c true (zy a (zi 0) fun c=>zb .eql 5 c b fun c=>dt Q I a b c h) (dt Q I a b zf h))
def jS:=aq (Q a h)
def xj:=aq (Q a h)
def mq(Q:KQ)(I:KI)(a:Value)(b:Value)(c:Value)(d:Value)(h:H):=aq (cM d 1 fun d=>I [a,b,c,d] h)
def jH:=aq (aG g (zb .sub 5 c (zu 97) fun c=>zb .add 5 c (zu 65) fun c=>zx 1 a b fun b=>bW 1 h b c fun h=>mq Q I a d e f h) (mq Q I a d e f h))
def tu:=aq (j0 d c (zx 1 b d fun e=>zc h e fun e=>zb .geq 5 e (zu 97) fun f=>aH f true (zb .leq 5 e (zu 122) fun f=>jH Q I a d e b c d f h) (jH Q I a d e b c d zf h)) (af (aT EE h 90 9 a) fun a=>Q a.1 a.2))
def gL:=aq (Q a h)
def og:=aq (j0 e d (zx 1 c e fun f=>zc h f fun f=>CP uC [f] h fun f h=>tG f fun f=>aG f (Q zf h) (cM e 1 fun e=>I [a,b,c,d,e] h)) (PG b 1 fun c=>aH c true (yg b 2 fun c=>aH c true (cF 9 h a fun c h=>zgt c b fun c=>aH c true (cF 9 h a fun a h=>cM b 3 fun b=>zle a b fun a=>gL Q a h) (gL Q zf h)) (gL Q zf h)) (gL Q zf h)))
def iO:=aq (aG c (cM b 1 fun b=>I [a,b] h) (af (aO EE h 9 a (some b) none none) fun c=>af (aT EE h 9 90 c) fun c=>cF 90 c.2 c.1 fun d h=>Y_ (og Q) [a,b,c.1,d,(zi 0)] h))
def pe:=aq (cF 9 h a fun c h=>zls b c fun c=>aH c true (zy a b fun c=>CP oe [c] h fun c h=>iO Q I a b c h) (iO Q I a b zf h))
def fZ:=aq (zo 1 h c fun e=>zo 2 h c fun f=>zo 1 h d fun g=>zo 2 h d fun i=>lL 182 [(0,e),(1,f),(2,g),(3,i)] fun e=>CP kU [e] h fun e h=>ze e 0 fun f=>ze e 1 fun e=>cq h 182 [(zi 0),(zi 0),(zi 0),(zi 0)] fun g h=>bW 4 h g f fun h=>tR .neq 26 e 0 (za 6 h b fun b=>CP bV [a,b,e] h fun a h=>Q a h) (za 5 h c fun b=>za 5 h d fun c=>lL 53 [(0,(zi 6)),(7,b),(8,c)] fun b=>CP bh [a,b] h fun a h=>Q a h))
def f_:=aq (zo 2 h c fun e=>zo 2 h d fun f=>Aba e f (zo 2 h d fun e=>zo 2 h c fun f=>zo 4 h d fun g=>zo 4 h c fun i=>zp 2 c fun j=>bW 1 h j e fun h=>zp 2 d fun e=>bW 1 h e f fun h=>zp 4 c fun e=>bW 1 h e g fun h=>zp 4 d fun e=>bW 1 h e i fun h=>fZ Q a b c d h) (fZ Q a b c d h))
end
section
variable(a b c d e f g i j k l m n o p q r s t u v w x y z A C D E F G L M N O P R S U V W Y Z:Value)(h:H)(Q:KQ)
def j_:=aq (VK (dq Q) [a,b] h)
def xT:=aq (zb .and 132 a (.int .u64 4294967295) fun c=>zb .shr 132 a (.int .u64 32) fun d=>zb .and 132 b (.int .u64 4294967295) fun e=>zb .shr 132 b (.int .u64 32) fun f=>zb .mul 132 c e fun g=>zb .mul 132 d e fun e=>zb .shr 132 g (.int .u64 32) fun g=>zb .add 132 e g fun e=>zb .and 132 e (.int .u64 4294967295) fun g=>zb .shr 132 e (.int .u64 32) fun e=>zb .mul 132 c f fun c=>zb .add 132 g c fun c=>zb .mul 132 d f fun d=>zb .add 132 d e fun d=>zb .shr 132 c (.int .u64 32) fun c=>zb .add 132 d c fun c=>zb .mul 132 a b fun a=>Q (.tuple ⟨[c,a]⟩) h)
def HQ:=aq (zb .geq 5 a (zu 65) fun b=>aH b true (zb .leq 5 a (zu 90) fun b=>aH b false (zb .geq 5 a (zu 97) fun b=>aH b true (zb .leq 5 a (zu 122) fun a=>jS Q a h) (jS Q zf h)) (jS Q zt h)) (zb .geq 5 a (zu 97) fun b=>aH b true (zb .leq 5 a (zu 122) fun a=>jS Q a h) (jS Q zf h)))
def Ks:=aq (zb .geq 5 a (zu 48) fun b=>aH b true (zb .leq 5 a (zu 57) fun a=>xj Q a h) (xj Q zf h))
def E3:=aq (af (aT EE h 9 90 a) fun a=>cF 90 a.2 a.1 fun b h=>VM (tu Q) [a.1,a.1,b,(zi 0)] h)
def AZ:=aq (VK (pe Q) [a,(zi 0)] h)
def oL:=aq (CP jK [a,(zi 10)] h fun a h=>Q a h)
def uB:=aq (dW h 37 a fun a h=>dW h 44 b fun b h=>zo 1 h b fun c=>CP vc [c] h fun c h=>tG c fun c=>aG c (zc h a fun a=>za 6 h b fun b=>CP bV [a,b,(zi 10)] h fun a h=>Q a h) (zo 1 h b fun c=>lL 53 [(0,(zi 9)),(5,c)] fun c=>cq h 53 [(zi 0),(zi 0),(zi 0),(zi 0),zf,zs,zs,zs,zf,zs,(zi 0),(zi 0),zf,zf,zs,(zi 0),(zi 0),zf,zf] fun d h=>bW 19 h d c fun h=>zc h a fun c=>za 6 h b fun b=>CP c_ [c,b,(.func (.func eu) ⟨[]⟩ ⟨[a,d]⟩)] h fun a h=>Q a h))
def nU:=aq (dW h 44 c fun c h=>za 6 h c fun d=>CP eK [a,d] h fun d h=>ze d 0 fun e=>ze d 1 fun d=>cq h 51 [zs,(zi 0),(zi 0),zf,zf] fun f h=>bW 5 h f e fun h=>tG d fun d=>aG d (Q (zi 0) h) (zp 0 f fun d=>bW 1 h d b fun h=>CP cg [a,(zi 8)] h fun b h=>tG b fun b=>aG b (za 5 h f fun b=>lL 53 [(0,(zi 5)),(7,b)] fun b=>CP bh [a,b] h fun a h=>Q a h) (CP bO [a] h fun b h=>CP cZ [a,(zi 3)] h fun b h=>bW 6 h c b fun h=>za 6 h c fun b=>CP eK [a,b] h fun b h=>ze b 0 fun d=>ze b 1 fun b=>cq h 51 [zs,(zi 0),(zi 0),zf,zf] fun e h=>bW 5 h e d fun h=>tG b fun b=>aG b (Q (zi 0) h) (zo 1 h f fun b=>zo 1 h e fun d=>Aba b d (zo 1 h e fun b=>zo 1 h f fun d=>zo 3 h e fun g=>zo 3 h f fun i=>zp 1 f fun j=>bW 1 h j b fun h=>zp 1 e fun b=>bW 1 h b d fun h=>zp 3 f fun b=>bW 1 h b g fun h=>zp 3 e fun b=>bW 1 h b i fun h=>f_ Q a c f e h) (f_ Q a c f e h)))))
end
variable{a b c d e f g i j k l m n o p q r s t u v w x y z A C D E F G L M N O P R S U V W Y Z:Value}{h:H}{Q:KQ}
theorem mO(X:j_ a b h Q):aj PP ft [a,b] h Q:=okF Tryz.f181 ⟨17,[(0,([0,1],[0]))],[]⟩ X
theorem Bh(X:xT a b h Q):aj PP nG [a,b] h Q:=okF Tryz.f186 ⟨51,[],[]⟩ X
theorem Jy(X:HQ a h Q):aj PP oe [a] h Q:=okF Tryz.f187 ⟨17,[],[]⟩ X
theorem Mh(X:Ks a h Q):aj PP uC [a] h Q:=okF Tryz.f188 ⟨9,[],[]⟩ X
theorem HR(X:E3 a h Q):aj PP vj [a] h Q:=okF Tryz.f189 ⟨30,[(0,([3,8,9,10],[3]))],[]⟩ X
theorem Ea(X:AZ a h Q):aj PP ry [a] h Q:=okF Tryz.f190 ⟨50,[(2,([0,3,21,22,23],[0,2,3])),(0,([0,3],[0,3]))],[]⟩ X
theorem vf(X:oL a h Q):aj PP nc [a] h Q:=okF Tryz.f191 ⟨5,[],[]⟩ X
theorem y8(X:uB a b h Q):aj PP lF [a,b] h Q:=okF Tryz.f192 ⟨20,[],[]⟩ X
theorem qA(X:nU a b c h Q):aj PP fm [a,b,c] h Q:=okF Tryz.f193 ⟨99,[],[]⟩ X
end
end Go.Proofs.YtikojelnedfmpaaGreatDoor
namespace Go.Proofs.YtikojelnedfmpaaGreatDoor
open Go Go.X
set_option maxRecDepth 1000000
noncomputable section
section
variable(Q:KQ)(I J K T B:KI)(a b c d e f g i j k l m n o p q r s t u v w x y z A C D E F G L M N O P R S U V W Y Z:Value)(h:H)
def mE:=aq (Q a h)
def cC:=aq (IN c 0 (zc h b fun d=>zx 1 d c fun d=>zc h d fun d=>DP a [c,d] h fun d h=>tG d fun d=>aG d (Q (.tuple ⟨[]⟩) h) (oJ c 1 fun c=>I [a,b,c] h)) (Q (.tuple ⟨[]⟩) h))
def ji:=aq (af (aT EE h 160 5 a) fun a=>zy (.string (bs [0,1,2,2,3,3,3,3,4,4,4,4,4,4,4,4,5,5,5,5,5,5,5,5,5,5,5,5,5,5,5,5,6,6,6,6,6,6,6,6,6,6,6,6,6,6,6,6,6,6,6,6,6,6,6,6,6,6,6,6,6,6,6,6,7,7,7,7,7,7,7,7,7,7,7,7,7,7,7,7,7,7,7,7,7,7,7,7,7,7,7,7,7,7,7,7,7,7,7,7,7,7,7,7,7,7,7,7,7,7,7,7,7,7,7,7,7,7,7,7,7,7,7,7,7,7,7,7,8,8,8,8,8,8,8,8,8,8,8,8,8,8,8,8,8,8,8,8,8,8,8,8,8,8,8,8,8,8,8,8,8,8,8,8,8,8,8,8,8,8,8,8,8,8,8,8,8,8,8,8,8,8,8,8,8,8,8,8,8,8,8,8,8,8,8,8,8,8,8,8,8,8,8,8,8,8,8,8,8,8,8,8,8,8,8,8,8,8,8,8,8,8,8,8,8,8,8,8,8,8,8,8,8,8,8,8,8,8,8,8,8,8,8,8,8,8,8,8,8,8,8,8,8,8,8,8])) a.1 fun c=>af (aT EE a.2 5 3 c) fun a=>oB b a.1 fun b=>Q b a.2)
def jj:=aq (Bb .geq 160 a (.int .u32 256) (zb .shr 160 a (.int .u64 8) fun a=>cM b 8 fun b=>ji Q a b h) (ji Q a b h))
def cT:=aq (IN c 0 (zc h b fun d=>zx 1 d c fun d=>zc h d fun d=>DP a [c,d] h fun d h=>tG d fun d=>aG d (Q (.tuple ⟨[]⟩) h) (oJ c 1 fun c=>I [a,b,c] h)) (Q (.tuple ⟨[]⟩) h))
def iy:=aq (af (aT EE h 132 5 a) fun a=>zy (.string (bs [0,1,2,2,3,3,3,3,4,4,4,4,4,4,4,4,5,5,5,5,5,5,5,5,5,5,5,5,5,5,5,5,6,6,6,6,6,6,6,6,6,6,6,6,6,6,6,6,6,6,6,6,6,6,6,6,6,6,6,6,6,6,6,6,7,7,7,7,7,7,7,7,7,7,7,7,7,7,7,7,7,7,7,7,7,7,7,7,7,7,7,7,7,7,7,7,7,7,7,7,7,7,7,7,7,7,7,7,7,7,7,7,7,7,7,7,7,7,7,7,7,7,7,7,7,7,7,7,8,8,8,8,8,8,8,8,8,8,8,8,8,8,8,8,8,8,8,8,8,8,8,8,8,8,8,8,8,8,8,8,8,8,8,8,8,8,8,8,8,8,8,8,8,8,8,8,8,8,8,8,8,8,8,8,8,8,8,8,8,8,8,8,8,8,8,8,8,8,8,8,8,8,8,8,8,8,8,8,8,8,8,8,8,8,8,8,8,8,8,8,8,8,8,8,8,8,8,8,8,8,8,8,8,8,8,8,8,8,8,8,8,8,8,8,8,8,8,8,8,8,8,8,8,8,8,8])) a.1 fun c=>af (aT EE a.2 5 3 c) fun a=>oB b a.1 fun b=>Q b a.2)
def mD:=aq (Bb .geq 132 a (.int .u64 256) (zb .shr 132 a (.int .u64 8) fun a=>cM b 8 fun b=>iy Q a b h) (iy Q a b h))
def mC:=aq (Bb .geq 132 a (.int .u64 65536) (zb .shr 132 a (.int .u64 16) fun a=>cM b 16 fun b=>mD Q a b h) (mD Q a b h))
def iX:=aq (CP rD [c] h fun d h=>oB (zi 1) d fun e=>af (aO EE h 232 b (some (zi 1)) (some e) none) fun e=>CP oH [e,c] h fun c h=>tR .lss 2 a 0 (af (ixP 24 1 b (zi 0)) fun a=>bW 1 h a (zu 45) fun h=>oB (zi 1) d fun a=>af (aO EE h 232 b none (some a) none) fun a=>af (aT EE h 90 9 a) fun a=>Q a.1 a.2) (oB (zi 1) d fun a=>af (aO EE h 232 b (some (zi 1)) (some a) none) fun a=>af (aT EE h 90 9 a) fun a=>Q a.1 a.2))
def eS:=aq (aG b (CP gZ [a] h fun a h=>Q a h) (cq h 232 [(zu 0),(zu 0),(zu 0),(zu 0),(zu 0),(zu 0),(zu 0),(zu 0),(zu 0),(zu 0),(zu 0),(zu 0),(zu 0),(zu 0),(zu 0),(zu 0),(zu 0),(zu 0),(zu 0),(zu 0),(zu 0),(zu 0),(zu 0),(zu 0)] fun b h=>af (aT EE h 2 132 a) fun c=>tR .lss 2 a 0 (af (X.unOp .neg c.1) fun d=>iX Q a b d c.2) (iX Q a b c.1 c.2)))
def df:=aq (aG c (Q zf h) (I [a,b] h))
def rh:=aq (Q a h)
def tf:=aq (af (EU h b true) fun c=>ze c.1 0 fun d=>aG d (ze c.1 1 fun d=>ze c.1 2 fun e=>zb .lss 21 e (.int .i32 65) fun f=>aH f false (zb .gtr 21 e (.int .i32 90) fun f=>aH f true (tS d 0 fun d=>aH d false (zb .lss 21 e (.int .i32 48) fun d=>aH d false (zb .gtr 21 e (.int .i32 57) fun d=>df Q I a b d c.2) (df Q I a b zt c.2)) (df Q I a b zt c.2)) (df Q I a b zf c.2)) (tS d 0 fun d=>aH d false (zb .lss 21 e (.int .i32 48) fun d=>aH d false (zb .gtr 21 e (.int .i32 57) fun d=>df Q I a b d c.2) (df Q I a b zt c.2)) (df Q I a b zt c.2))) (zb .neq 9 a zs fun b=>aH b true (cF 9 c.2 a fun a h=>yg a 12 fun a=>rh Q a h) (rh Q zf c.2)))
def dT:=aq (zc h a fun c=>CP bO [c] h fun c h=>zc h a fun a=>za 19 h b fun b=>CP bh [a,b] h fun a h=>Q a h)
def kG:=aq (Q a h)
def dz:=aq (af (db a) fun c=>zo 5 h c fun c=>tR .eql 26 c 0 (cF 23 h b fun c h=>bZ c 20 (af (db a) fun c=>zo 0 h c fun c=>zx 6 c (zi 0) fun c=>za 6 h c fun c=>CP bV [a,c,(zi 2)] h fun a h=>kG Q b h) (CP cy [a] h fun c h=>gh EE h 23 1 [(0,c)] fun c h=>ir EE h #[23,23] b c fun b h=>CP cg [a,(zi 6)] h fun c h=>aG c (kG Q b h) (CP cZ [a,(zi 7)] h fun c h=>I [a,b] h))) (kG Q b h))
def dS:=aq (za 5 h b fun b=>PS .eql 26 c 0 fun c=>bW 5 h a b fun h=>zr a 51 h Q (FX c))
def eZ:=aq (aG c (lL 182 [] fun a=>bW 4 h b a fun h=>zr b 182 h Q (FX (zi 6))) (zo 0 h a fun c=>zo 2 h a fun d=>blt EE h .min #[3,3] [c,d] fun c h=>zo 0 h a fun d=>zo 2 h a fun e=>blt EE h .max #[3,3] [d,e] fun d h=>zp 0 a fun e=>bW 1 h e c fun h=>zp 2 a fun c=>bW 1 h c d fun h=>zo 1 h a fun c=>zo 3 h a fun d=>blt EE h .min #[3,3] [c,d] fun c h=>zo 1 h a fun d=>zo 3 h a fun e=>blt EE h .max #[3,3] [d,e] fun d h=>zp 1 a fun e=>bW 1 h e c fun h=>zp 3 a fun c=>bW 1 h c d fun h=>za 4 h a fun c=>CP kT [c] h fun c h=>rL c 200 (lL 182 [] fun a=>bW 4 h b a fun h=>zr b 182 h Q (FX (zi 7))) (za 4 h a fun a=>bW 4 h b a fun h=>zr b 182 h Q (FX (zi 0)))))
end
section
variable(a b c d e f g i j k l m n o p q r s t u v w x y z A C D E F G L M N O P R S U V W Y Z:Value)(h:H)(Q:KQ)
def yS:=aq (dW h 182 a fun a h=>za 4 h a fun b=>CP kU [b] h fun b h=>ze b 0 fun c=>ze b 1 fun b=>cq h 182 [(zi 0),(zi 0),(zi 0),(zi 0)] fun d h=>bW 4 h d c fun h=>PS .eql 26 b 0 fun b=>aH b true (za 4 h a fun a=>za 4 h d fun b=>zb .eql 182 a b fun a=>mE Q a h) (mE Q zf h))
def yQ:=aq (dW h 182 a fun a h=>zo 2 h a fun b=>zo 0 h a fun c=>M1 b c fun b=>cM b 1 fun b=>zo 3 h a fun c=>zo 1 h a fun a=>M1 c a fun a=>cM a 1 fun a=>zb .mul 3 b a fun a=>Q a h)
def Nh:=aq (aG a (Q (zi 1) h) (Q (.int .i64 (-1)) h))
def eW:=aq (zc h b fun c=>cF 156 h c fun c h=>oJ c 1 fun c=>VL (cC Q) [a,b,c] h)
def xQ:=aq (Bb .geq 160 a (.int .u32 65536) (zb .shr 160 a (.int .u64 16) fun a=>jj Q a (zi 16) h) (jj Q a (zi 0) h))
def fL:=aq (zc h b fun c=>cF 162 h c fun c h=>oJ c 1 fun c=>VL (cT Q) [a,b,c] h)
def xX:=aq (Bb .geq 132 a (.int .u64 4294967296) (zb .shr 132 a (.int .u64 32) fun a=>mC Q a (zi 32) h) (mC Q a (zi 0) h))
def kC:=aq (bZ b 10 (zb .leq 2 (zi 0) a fun b=>aH b true (PS .lss 2 a 100 fun b=>eS Q a b h) (eS Q a zf h)) (af (aT EE h 2 132 a) fun c=>PS .lss 2 a 0 fun a=>CP qO [zn,c.1,b,a,zf] c.2 fun a h=>ze a 0 fun b=>ze a 1 fun a=>Q a h))
def ET:=aq (af (BC EE h 9 a) fun b=>VK (tf Q) [a,b.1] b.2)
def rJ:=aq (zc h a fun c=>CP bO [c] h fun c h=>zc h a fun c=>CP cg [c,(zi 6)] h fun c h=>tG c fun c=>aG c (zc h a fun c=>CP rK [c] h fun c h=>zc h a fun d=>af (db d) fun d=>zp 1 d fun d=>zo 1 h d fun d=>cF 23 h d fun d h=>cF 23 h c fun e h=>zp 2 b fun f=>bW 1 h f d fun h=>zp 3 b fun d=>bW 1 h d e fun h=>zc h a fun d=>zc h a fun e=>af (db e) fun e=>zp 1 e fun e=>zo 1 h e fun e=>ir EE h #[23,23] e c fun c h=>(aw h a)=some d∧af (db d) fun d=>zp 1 d fun d=>zp 1 d fun d=>bW 1 h d c fun h=>dT Q a b h) (dT Q a b h))
def uA:=aq (VK (dz Q) [a,zn] h)
def nT:=aq (dW h 44 b fun b h=>cq h 51 [zs,(zi 0),(zi 0),zf,zf] fun c h=>af (db a) fun d=>zo 5 h d fun d=>tR .neq 26 d 0 (lL 51 [] fun a=>bW 5 h c a fun h=>zr c 51 h Q (FX zf)) (zo 1 h b fun d=>CP uk [d] h fun d h=>ze d 0 fun e=>ze d 1 fun d=>cq h 51 [zs,(zi 0),(zi 0),zf,zf] fun f h=>bW 5 h f e fun h=>tR .neq 26 d 0 (za 6 h b fun b=>CP bV [a,b,d] h fun a h=>dS Q c f d h) (dS Q c f d h)))
def yR:=aq (dW h 182 a fun a h=>cq h 182 [(zi 0),(zi 0),(zi 0),(zi 0)] fun b h=>zo 0 h a fun c=>zo 1 h a fun d=>CP mX [c,d] h fun c h=>tG c fun c=>aH c false (zo 2 h a fun c=>zo 3 h a fun d=>CP mX [c,d] h fun c h=>tG c fun c=>eZ Q a b c h) (eZ Q a b zt h))
def nZ:=aq (Bc a 10 (cM a 1 fun b=>af (aO EE h 9 (.string (bs [48,49,50,51,52,53,54,55,56,57,97,98,99,100,101,102,103,104,105,106,107,108,109,110,111,112,113,114,115,116,117,118,119,120,121,122])) (some a) (some b) none) fun a=>Q a h) (PS .mul 3 a 2 fun b=>PS .mul 3 a 2 fun a=>cM a 2 fun a=>af (aO EE h 9 (.string (bs [48,48,48,49,48,50,48,51,48,52,48,53,48,54,48,55,48,56,48,57,49,48,49,49,49,50,49,51,49,52,49,53,49,54,49,55,49,56,49,57,50,48,50,49,50,50,50,51,50,52,50,53,50,54,50,55,50,56,50,57,51,48,51,49,51,50,51,51,51,52,51,53,51,54,51,55,51,56,51,57,52,48,52,49,52,50,52,51,52,52,52,53,52,54,52,55,52,56,52,57,53,48,53,49,53,50,53,51,53,52,53,53,53,54,53,55,53,56,53,57,54,48,54,49,54,50,54,51,54,52,54,53,54,54,54,55,54,56,54,57,55,48,55,49,55,50,55,51,55,52,55,53,55,54,55,55,55,56,55,57,56,48,56,49,56,50,56,51,56,52,56,53,56,54,56,55,56,56,56,57,57,48,57,49,57,50,57,51,57,52,57,53,57,54,57,55,57,56,57,57])) (some b) (some a) none) fun a=>Q a h))
end
variable{a b c d e f g i j k l m n o p q r s t u v w x y z A C D E F G L M N O P R S U V W Y Z:Value}{h:H}{Q:KQ}
theorem Cx(X:yS a h Q):aj PP oZ [a] h Q:=okF Tryz.f208 ⟨17,[],[]⟩ X
theorem Cv(X:yQ a h Q):aj PP kT [a] h Q:=okF Tryz.f209 ⟨16,[],[]⟩ X
theorem Ng(X:Nh a h Q):aj PP wu [a] h Q:=okF Tryz.f210 ⟨4,[],[]⟩ X
theorem jT(X:eW a b h Q):aj PP bw [a,b] h Q:=okF Tryz.f211 ⟨19,[(0,([0,1,3],[]))],[]⟩ X
theorem Bf(X:xQ a h Q):aj PP j3 [a] h Q:=okF Tryz.f212 ⟨19,[],[]⟩ X
theorem kK(X:fL a b h Q):aj PP bL [a,b] h Q:=okF Tryz.f213 ⟨19,[(0,([0,1,3],[]))],[]⟩ X
theorem Bi(X:xX a h Q):aj PP uJ [a] h Q:=okF Tryz.f214 ⟨25,[],[]⟩ X
theorem qG(X:kC a b h Q):aj PP jK [a,b] h Q:=okF Tryz.f217 ⟨54,[],[]⟩ X
theorem Hv(X:ET a h Q):aj PP vc [a] h Q:=okF Tryz.f218 ⟨36,[(0,([0,6],[0,2]))],[]⟩ X
theorem w9(X:rJ a b h Q):aj PP eu [a,b] h Q:=okF Tryz.f219 ⟨37,[],[]⟩ X
theorem y7(X:uA a h Q):aj PP rK [a] h Q:=okF Tryz.f220 ⟨30,[(0,([0,3],[3]))],[]⟩ X
theorem tN(X:nT a b h Q):aj PP eK [a,b] h Q:=okF Tryz.f221 ⟨29,[],[]⟩ X
theorem Cw(X:yR a h Q):aj PP kU [a] h Q:=okF Tryz.f222 ⟨48,[],[]⟩ X
theorem tP(X:nZ a h Q):aj PP gZ [a] h Q:=okF Tryz.f236 ⟨15,[],[]⟩ X
end
end Go.Proofs.YtikojelnedfmpaaGreatDoor
namespace Go.Proofs.YtikojelnedfmpaaGreatDoor
open Go Go.X
set_option maxRecDepth 1000000
noncomputable section
section
variable(Q:KQ)(I J K T B:KI)(a b c d e f g i j k l m n o p q r s t u v w x y z A C D E F G L M N O P R S U V W Y Z:Value)(h:H)
def gY:=aq (aG g (lL 51 [] fun a=>bW 5 h b a fun h=>zr b 51 h Q (FX (zi 10))) (zp 4 c fun g=>bW 1 h g f fun h=>af (aO EE h 9 a none (some d) none) fun a=>zb .add 9 a e fun a=>CP xi [a] h fun a h=>ze a 0 fun d=>ze a 1 fun e=>ze a 2 fun a=>zp 1 c fun f=>bW 1 h f d fun h=>zp 2 c fun d=>bW 1 h d e fun h=>tR .neq 26 a 0 (lL 51 [] fun c=>bW 5 h b c fun h=>zr b 51 h Q (FX a)) (za 5 h c fun a=>bW 5 h b a fun h=>zr b 51 h Q (FX (zi 0)))))
def jO:=aq (aG e (cM d 1 fun d=>I [a,b,c,d] h) (af (aO EE h 9 a (some d) none none) fun e=>CP iz [e,(.string (bs [36]))] h fun e h=>ze e 0 fun f=>ze e 1 fun e=>aH e true (tS d 0 fun g=>aH g false (zb .neq 9 f zs fun g=>aH g true (zy f (zi 0) fun g=>zb .geq 5 g (zu 65) fun g=>aH g true (zy f (zi 0) fun g=>zb .leq 5 g (zu 90) fun g=>gY Q a b c d f e g h) (gY Q a b c d f e zf h)) (gY Q a b c d f e zf h)) (gY Q a b c d f e zt h)) (gY Q a b c d f e zf h)))
def u9:=aq (cF 9 h a fun e h=>zls d e fun e=>aH e true (zy a d fun e=>zb .geq 5 e (zu 65) fun e=>aH e true (zy a d fun e=>zb .leq 5 e (zu 90) fun e=>jO Q I a b c d e h) (jO Q I a b c d zf h)) (jO Q I a b c d zf h))
def sf:=aq (CP iz [a,(.string (bs [36]))] h fun a h=>ze a 0 fun d=>ze a 1 fun a=>zp 3 c fun e=>bW 1 h e a fun h=>VM (u9 Q) [d,b,c,(zi 0)] h)
def od:=aq (aG c (Q (.tuple ⟨[(zi 0),(zi 0),(zi 6)]⟩) h) (Q (.tuple ⟨[a,b,(zi 0)]⟩) h))
def iN:=aq (aG c (Q (.tuple ⟨[(zi 0),(zi 0),(zi 10)]⟩) h) (CP xb [b] h fun b h=>ze b 0 fun c=>ze b 1 fun b=>tG b fun b=>aH b false (CP mX [c,a] h fun b h=>tG b fun b=>od Q c a b h) (od Q c a zt h)))
def jP:=aq (aG c (cM b 1 fun b=>I [a,b] h) (af (aO EE h 9 a none (some b) none) fun c=>af (aO EE h 9 a (some b) none none) fun a=>Q (.tuple ⟨[c,a]⟩) h))
def vd:=aq (cF 9 h a fun c h=>zls b c fun c=>aH c true (zy a b fun c=>zb .geq 5 c (zu 65) fun c=>aH c true (zy a b fun c=>zb .leq 5 c (zu 90) fun c=>jP Q I a b c h) (jP Q I a b zf h)) (jP Q I a b zf h))
def jG:=aq (aG f (Q (.tuple ⟨[(zi 0),zf]⟩) h) (zb .mul 3 (zi 10) a fun a=>zb .sub 5 b (zu 48) fun b=>af (aT EE h 5 3 b) fun b=>oB a b.1 fun a=>cM e 1 fun e=>I [a,c,d,e] b.2))
def ru:=aq (j0 d c (zx 1 b d fun e=>zc h e fun e=>zb .lss 5 e (zu 48) fun f=>aH f false (zb .gtr 5 e (zu 57) fun f=>jG Q I a e b c d f h) (jG Q I a e b c d zt h)) (Q (.tuple ⟨[a,zt]⟩) h))
def iL:=aq (aG b (Q (.tuple ⟨[(zi 0),zf]⟩) h) (af (aT EE h 9 90 a) fun a=>cF 90 a.2 a.1 fun b h=>VM (ru Q) [(zi 0),a.1,b,(zi 0)] h))
def kB:=aq (aG f (Q (.tuple ⟨[(zi 0),zf]⟩) h) (zb .mul 3 (zi 26) a fun a=>zb .sub 5 b (zu 65) fun b=>af (aT EE h 5 3 b) fun b=>oB a b.1 fun a=>cM a 1 fun a=>cM e 1 fun e=>I [a,c,d,e] b.2))
def tp:=aq (j0 d c (zx 1 b d fun e=>zc h e fun e=>zb .lss 5 e (zu 65) fun f=>aH f false (zb .gtr 5 e (zu 90) fun f=>kB Q I a e b c d f h) (kB Q I a e b c d zt h)) (CP jN [a,(zi 52)] h fun b h=>tG b fun b=>aG b (Q (.tuple ⟨[(zi 0),zf]⟩) h) (Q (.tuple ⟨[a,zt]⟩) h)))
def lZ:=aq (aG b (Q (.tuple ⟨[(zi 0),zf]⟩) h) (af (aT EE h 9 90 a) fun a=>cF 90 a.2 a.1 fun b h=>VM (tp Q) [(zi 0),a.1,b,(zi 0)] h))
end
section
variable(a b c d e f g i j k l m n o p q r s t u v w x y z A C D E F G L M N O P R S U V W Y Z:Value)(h:H)(Q:KQ)
def Kb:=aq (cq h 51 [zs,(zi 0),(zi 0),zf,zf] fun b h=>cq h 51 [zs,(zi 0),(zi 0),zf,zf] fun c h=>CP jM [a,(.string (bs [33]))] h fun d h=>ze d 0 fun e=>ze d 1 fun f=>ze d 2 fun d=>aG d (CP qH [e] h fun a h=>tG a fun a=>aG a (lL 51 [] fun a=>bW 5 h b a fun h=>zr b 51 h Q (FX (zi 10))) (zp 0 c fun a=>bW 1 h a e fun h=>sf Q f b c h)) (sf Q a b c h))
def uh:=aq (CP dP [a,b] h fun a h=>ze a 0 fun b=>ze a 1 fun a=>Q (.tuple ⟨[b,a]⟩) h)
def HP:=aq (CP w_ [a] h fun a h=>ze a 0 fun b=>ze a 1 fun a=>CP ve [a] h fun a h=>ze a 0 fun c=>ze a 1 fun a=>tG a fun a=>aH a false (cF 9 h b fun a h=>MT a 1 fun a=>aH a false (cF 9 h b fun a h=>BU a 2 fun a=>iN Q c b a h) (iN Q c b zt h)) (iN Q c b zt h))
def iJ:=aq (CP ca [a,b] h fun c h=>tG c fun c=>aG c (Q (.tuple ⟨[a,zf]⟩) h) (cF 9 h b fun b h=>af (aO EE h 9 a (some b) none none) fun a=>Q (.tuple ⟨[a,zt]⟩) h))
def Hy:=aq (VK (vd Q) [a,(zi 0)] h)
def E2:=aq (zb .eql 9 a zs fun b=>aH b false (cF 9 h a fun b h=>BU b 3 fun b=>aH b false (zy a (zi 0) fun b=>zb .eql 5 b (zu 48) fun b=>iL Q a b h) (iL Q a zt h)) (iL Q a zt h))
def HG:=aq (cF 9 h a fun b h=>MT b 1 fun b=>aH b false (cF 9 h a fun b h=>BU b 2 fun b=>lZ Q a b h) (lZ Q a zt h))
end
variable{a b c d e f g i j k l m n o p q r s t u v w x y z A C D E F G L M N O P R S U V W Y Z:Value}{h:H}{Q:KQ}
theorem LD(X:Kb a h Q):aj PP uk [a] h Q:=okF Tryz.f240 ⟨96,[(0,([0,2,4,8],[0,2,4,8]))],[]⟩ X
theorem yN(X:uh a b h Q):aj PP iz [a,b] h Q:=okF Tryz.f250 ⟨11,[],[]⟩ X
theorem Jx(X:HP a h Q):aj PP xi [a] h Q:=okF Tryz.f251 ⟨45,[],[]⟩ X
theorem nh(X:iJ a b h Q):aj PP dP [a,b] h Q:=okF Tryz.f257 ⟨15,[],[]⟩ X
theorem Jn(X:Hy a h Q):aj PP w_ [a] h Q:=okF Tryz.f258 ⟨29,[(0,([0,4],[0,4]))],[]⟩ X
theorem HI(X:E2 a h Q):aj PP ve [a] h Q:=okF Tryz.f259 ⟨40,[(0,([4,20,21,22],[2,3,4]))],[]⟩ X
theorem Jq(X:HG a h Q):aj PP xb [a] h Q:=okF Tryz.f260 ⟨40,[(0,([4,16,17,18],[2,3,4]))],[]⟩ X
end
end Go.Proofs.YtikojelnedfmpaaGreatDoor
namespace Go.Proofs.YtikojelnedfmpaaGreatDoor
open Go Go.X
set_option maxRecDepth 1000000
theorem Lj {e:TypeId} {n:Nat} (j:(EE.dO e).map (·.bytes)=some n) (h2:EE.size e=some 1) (hn:n<=16):∃ i,EE.dO e=some i/\i.bytes<=16/\i.size=1:=by
 cases hi:EE.dO e with
 | none=>rw[hi] at j;cases j
 | some i =>
  rw[hi] at j
  have o:EE.size e=some i.size:=by unfold Env.size;rw[show EE.types.get e=some i from hi];rfl
  rw[o] at h2
  exact⟨i,rfl,by have:i.bytes=n:=Option.some.inj j;omega,Option.some.inj h2⟩
theorem TL:Tz EE 162 160 (.int .u32 0):=⟨AbU,PI,Zd,Lj AbV PI dc,rfl⟩
theorem TB:Tz EE 90 5 (.int .u8 0):=⟨pY,sz5,zc5,Lj by5 sz5 dc,rfl⟩
theorem TM:Tz EE 156 160 (.int .u32 0):=⟨AbW,PI,Zd,Lj AbV PI dc,rfl⟩
theorem ag3:(EE.dO 3).map (·.agg)=some false:=by kernel_rfl
theorem PY {h:H} {t:TypeId} (ha:(EE.dO t).map (·.agg)=some false) {b:Nat} {x:Value} {e:TypeId} {osz ib:Nat} {ro:Bool} (hr:h.row b=some ⟨[x],e,osz,ib,ro⟩) :
 ((addrOf (.pointer (some ⟨b,0,none⟩))).bind fun o=>(X.loadVar EE h t o).bind fun p=>(some []).map (p :: ·))=some [x]:=by
 cases hi:EE.dO t with
 | none=>rw[hi] at ha;cases ha
 | some i =>
  rw[hi] at ha
  have j:i.agg=false:=Option.some.inj ha
  show (X.loadVar EE h t ⟨b,0,none⟩).bind _=_
  unfold X.loadVar
  rw[hi,Option.bind_some,j]
  show ((h.row b).bind fun x=>nth x.cs 0).bind _=_
  rw[hr];rfl
end Go.Proofs.YtikojelnedfmpaaGreatDoor
namespace Go.Proofs.YtikojelnedfmpaaGreatDoor
open Go Go.X
abbrev uL (ns:List Nat):List Value:=ns.map xN
theorem _root_.Go.X.bk.PV {h:H} {v:Value} {ns:List Nat} (r:bk h v (uL ns)) {i:Nat} (hi:i<ns.length) (K:Value->Prop):(af (AB 1 v (vI i)) fun p=>af (aw h p) K)=K (xN ns[i]):=by
 have j:i<(uL ns).length:=sp hi
 rw[r.rd j,List.getElem_map]
theorem _root_.Go.X.bk.BZ {h:H} {v:Value} {ns:List Nat} {t e:TypeId} {z:Value} (r:bk h v (uL ns)) (T:Tz EE t e z) (K:Value->H->Prop):blt EE h .len #[t] [v] K=K (vI ns.length) h:=by
 rw[r.len T,List.length_map]
theorem Ey {n:Nat} (hn:n<4294967296) (h:H):aT EE h 160 132 (xN n)=some (dD n,h):=by
 rw[dI iB lQ]
 show some (Value.int .u64 (IntKind.u64.wrap ((n:Nat):Int)),h)=_
 rw[bB,Nat.mod_eq_of_lt om]
theorem Gq (n:Nat) (h:H):aT EE h 132 160 (dD n)=some (xN (n % 4294967296),h):=by
 rw[dI lQ iB,wrap_u32]
theorem Abb (E:Env) (t:TypeId) (a k:Nat) (hk:k<=64):X.binOp E .shr t (dD a) (.int .u64 ((k:Nat):Int))=some (dD (a / 2 ^ k)):=by
 rw[qR,show min k IntKind.u64.bits=k from Nat.min_eq_left hk,Nat.shiftRight_eq_div_pow]
theorem vw (E:Env) (t:TypeId) (a:Nat):X.binOp E .shr t (dD a) (.int .u64 32)=some (dD (a / 4294967296)):=Abb E t a 32 om
theorem M4 (E:Env) (t:TypeId) (a:Nat):X.binOp E .shr t (dD a) (.int .u64 63)=some (dD (a / 9223372036854775808)):=Abb E t a 63 om
theorem JO (E:Env) (t:TypeId) (a b:Nat) (h:a+b<18446744073709551616):X.binOp E .add t (dD a) (dD b)=some (dD (a+b)):=by rw[fq,bB,Nat.mod_eq_of_lt h]
theorem RD (E:Env) (t:TypeId) (a b:Nat) (h:a * b<18446744073709551616):X.binOp E .mul t (dD a) (dD b)=some (dD (a * b)):=by rw[Ds,bB,Nat.mod_eq_of_lt h]
theorem dm (E:Env) (t:TypeId) (a b:Nat) (h:a+b<=9223372036854775807):X.binOp E .add t (vI a) (vI b)=some (vI (a+b)):=by rw[fq,wrap_i64 h]
theorem pX (E:Env) (t:TypeId) (a b:Nat) (hb:b<=a) (h:a<=9223372036854775807):X.binOp E .sub t (vI a) (vI b)=some (vI (a-b)):=by rw[uK _ _ _ _ _ hb,wrap_i64 om]
theorem Zy (E:Env) (t:TypeId) (a b:Nat) (ha:a<18446744073709551616) (hb:b<=18446744073709551616):X.binOp E .sub t (dD a) (dD b)=some (dD ((a+(18446744073709551616-b)) % 18446744073709551616)):=by
 by_cases h:b<=a
 . rw[uK _ _ _ _ _ h,bB]
   congr 3;omega
 . rw[VW _ _ _ _ om om]
   congr 3;omega
theorem zI:(.int .i64 0:Value)=vI 0:=rfl
theorem oI:(.int .i64 1:Value)=vI 1:=rfl
def slN:Value->Nat | .slice _ n _=>n | _=>0
theorem _root_.Go.X.bp.slN {e:TypeId} {h0 h:H} {w:Value} {vs:List Value} (o:bp e h0 h w vs):slN w=vs.length:=by
 cases o with
 | nil=>rfl
 | «at» b n L _ _ _ hn=>simp[Go.Proofs.YtikojelnedfmpaaGreatDoor.slN];omega
theorem Dt (a:List UInt8) (h:H):ai PP ft [st a,.int .u8 0] h (.v (st (trim a)) h):=by
 refine aj.pure (mO ?_) (by simp[flat])
 unfold j_ aq
 refine aL.ind (fun s h'=>h'=h/\∃ b,s=[st b,.int .u8 0]/\trim b=trim a) (fun s _=>match aI s 0 with | .string b=>b.data.toList.length | _=>0) ?_ ⟨rfl,a,rfl,rfl⟩
 rintro s h' ⟨rfl,b,rfl,hb⟩
 show dq _ _ (st b) (.int .u8 0) h'
 unfold dq aq
 rw[bb kH,zI,fu,aa,ag]
 cases b with
 | nil =>
  simp only[List.length_nil,Nat.lt_irrefl,decide_false,Bool.false_eq_true,if_false]
  unfold dt aq
  rw[zL,<-hb]
  exact⟨rfl,Fr.refl h'⟩
 | cons c b =>
  rw[if_pos sm]
  simp only[rO,Int.natCast_zero,Int.le_refl,if_true,Int.toNat_zero,List.getElem?_cons_zero,Option.bind_some,aa]
  rw[show (.int .u8 0:Value)=v8 0 from rfl,cn,aa]
  unfold dt aq
  rw[ae]
  by_cases hc:c=0
  . subst hc
    rw[if_pos sm,dJ kH h' (0 :: b) (some (.int .i64 1)) none (fw _ _) (bm .i64 1 0 _ sm),aa]
    simp only[List.take_length,List.drop_succ_cons,List.drop_zero]
    refine⟨⟨trivial,b,rfl,by rw[<-hb,mP]⟩,?_⟩
    show b.length<(0 :: b).length
    simp
  . rw[if_neg (by simp;exact fun q=>hc (UInt8.toNat_inj.1 q)),<-hb,ny c b hc]
    exact⟨rfl,Fr.refl h'⟩
theorem KY (a:List UInt8) (h:H):ai PP fK [st a,st [0]] h (.v (st (trim a)) h):=by
 refine aj.pure (rE ?_) (by simp[flat])
 unfold oP aq
 rw[show (bs []:ByteArray)=⟨⟨[]⟩⟩ from rfl,bf,aa,ag,bf,aa]
 by_cases ha:a=[]
 . subst ha
   rw[if_neg sm]
   unfold dV aq
   rw[B7]
   exact⟨rfl,Fr.refl h⟩
 . rw[if_pos (by simp[ha])]
   unfold dV aq
   rw[ae,if_neg sm,bb kH]
   simp only[List.length_cons,List.length_nil,rO]
   rw[oI,cn,aa,ag,if_pos sm]
   simp only[Int.le_refl,if_true,Int.toNat_zero,List.getElem?_cons_zero,Option.bind_some,aa]
   rw[show (.int .u8 128:Value)=v8 128 from rfl,bI,aa]
   unfold gy aq
   rw[ae,if_pos dc]
   simp only[rO,Int.le_refl,if_true,Int.toNat_zero,List.getElem?_cons_zero,Option.bind_some,aa]
   exact ar (Dt a h) ⟨rfl,Fr.refl h⟩
theorem cS (a:List UInt8) (h:H):ai PP dh [st a] h (.v (st (enc (aJ a))) h):=by
 refine aj.pure (M5 ?_) (by simp[flat])
 unfold M6 aq
 rw[yh]
 exact ar (KY a h) ⟨rfl,Fr.refl h⟩
theorem mv {h:H} {v:Value} {ns:List Nat} (r:bk h v (uL ns)) (hl:iu ns) (i:Nat):ai PP dK [v,vI i] h (.v (dD (ns.getD i 0)) h):=by
 refine aj.pure (Fs ?_) (by simp[flat])
 unfold B8 aq
 rw[r.len TL,wg,aa,ae]
 simp only[List.length_map]
 by_cases hi:ns.length<=i
 . rw[if_pos (by simp[hi]),List.getD_eq_getElem?_getD,List.getElem?_eq_none hi]
   exact⟨rfl,Fr.refl h⟩
 . have o:i<(uL ns).length:=so
   have j:i<ns.length:=om
   rw[if_neg so,r.rd o,List.getElem_map,dI iB lQ,aa]
   rw[List.getD_eq_getElem?_getD,List.getElem?_eq_getElem j]
   have:=hl _ (List.getElem_mem j)
   show (Value.int IntKind.u64 (IntKind.u64.wrap (ns[i]:Int))=_)/\_
   rw[bB,Nat.mod_eq_of_lt om]
   exact⟨rfl,Fr.refl h⟩
theorem Ez {h0 h:H} {v:Value} {ns:List Nat} (r:bp 160 h0 h v (uL ns)) (hb:ns.length<=1000000000):CP mf [v] h fun w h'=>h'=h/\bp 160 h0 h w (uL (tI ns)):=by
 refine .call (Du ?_)
 unfold AD aq
 refine aL.ind (fun s h'=>h'=h/\∃ w j,s=[w]/\bp 160 h0 h w (uL j)/\tI j=tI ns/\j.length<=ns.length) (fun s _=>slN (aI s 0)) ?_ ⟨rfl,v,ns,rfl,r,rfl,Nat.le_refl _⟩
 rintro s h' ⟨rfl,w,j,rfl,o,hc,hle⟩
 show oQ _ _ w h'
 unfold oQ aq
 rw[o.read.len TL,zI,fu,aa,ag]
 simp only[List.length_map]
 rcases sC j with rfl | ⟨j,d,rfl⟩
 . rw[if_neg sm]
   unfold kI aq
   rw[zL,<-hc]
   exact⟨rfl,o⟩
 . have hlen:(j++[d]).length=j.length+1:=sm
   rw[hlen] at hle ⊢
   rw[if_pos sm,o.read.len TL,oI]
   simp only[List.length_map,hlen]
   rw[uK _ _ _ _ _ om,aa,Nat.add_sub_cancel,wrap_i64 om]
   have hi:j.length<(uL (j++[d])).length:=sm
   rw[o.read.rd hi,List.getElem_map,show (j++[d])[j.length]'sm=d by simp,show (.int .u32 0:Value)=xN 0 from rfl,cn,aa]
   unfold kI aq
   rw[ae]
   by_cases hd:d=0
   . subst hd
     rw[if_pos sm,o.read.len TL]
     simp only[List.length_map,hlen]
     rw[oI,uK _ _ _ _ _ om,aa,Nat.add_sub_cancel,wrap_i64 om]
     obtain⟨C,I,p⟩:=o.take TL (n:=j.length) sm
     rw[I,aa]
     have J:(uL (j++[0])).take j.length=uL j:=by simp[uL]
     rw[J] at p
     refine⟨⟨trivial,C,j,rfl,p,by rw[<-hc,sD],om⟩,?_⟩
     show slN C<slN w
     rw[p.slN,o.slN];simp
   . rw[if_neg (by simp[hd]),<-hc,uM j d hd]
     exact⟨rfl,o⟩
def bl:Nat:=1000000000
theorem Ab2 (n c:Nat) (hc:c<256):n <<< 8 ||| c=n * 256+c:=by
 rw[<-Nat.shiftLeft_add_eq_or_of_lt hc,Nat.shiftLeft_eq]
theorem Gr (l:List UInt8) (i:Nat) (hi:i<l.length):aJ (l.take (i+1))=aJ (l.take i) * 256+l[i].toNat:=by
 rw[List.take_add_one,List.getElem?_eq_getElem hi,Option.toList_some,Dv]
theorem KZ:256 ^ 4=4294967296:=dc
theorem wi {l:List UInt8} (h:l.length<=4):aJ l<4294967296:=by
 have:=wj l
 have h2:256 ^ l.length<=256 ^ 4:=Nat.pow_le_pow_right om h
 have:256 ^ 4=4294967296:=dc
 omega
theorem jf {h0 h:H} (hf:Fr h0 h) (a:List UInt8) (hb:a.length<=bl):CP jg [st a] h fun w h'=>Fr h0 h'/\Fr h h'/\∃ ns,bp 160 h h' w (uL ns)/\Norm ns/\aN ns=aJ a/\ns.length<=bl:=by
 have qS:bl=1000000000:=rfl
 refine .call (M7 ?_)
 unfold M8 aq
 refine aL.ind (fun s h'=>Fr h h'/\∃ b w ns,s=[st b,w]/\bp 160 h h' w (uL ns)/\iu ns/\aJ a=aN ns+4294967296 ^ ns.length * aJ b/\b.length+ns.length<=a.length) (fun s _=>match aI s 0 with | .string b=>b.data.toList.length | _=>0) ?_ ⟨Fr.refl h,a,.slice none 0 0,[],rfl,.nil,iu.nil,by simp[aN],sm⟩
 rintro s U ⟨f1,b,w,ns,rfl,o,hl,hv,hle⟩
 show yi _ _ (st b) w U
 unfold yi aq
 rw[bb kH,zI,fu,aa,ae]
 by_cases gz:b.length=0
 . have:b=[]:=List.eq_nil_of_length_eq_zero gz
   subst this
   rw[if_neg sm]
   refine (Ez o om).mono ?_
   rintro w' h' ⟨rfl,o'⟩
   refine⟨hf.trans f1,f1,tI ns,o',JP hl,by rw[JQ,hv];simp[aJ],?_⟩
   have:(tI ns).length<=ns.length:=by unfold tI;simp;exact Nat.le_trans (List.dropWhile_sublist _).length_le sm
   omega
 . rw[if_pos so,bb kH,Go.X.binOp_sub,aa,wrap64 om om]
   have e1:max ((0:Nat):Int) ((b.length:Int)-4)=((b.length-4:Nat):Int):=om
   rw[wk,e1,dJ kH U b (some (vI (b.length-4))) none (fw _ _) (bm .i64 _ 0 _ om),aa,List.take_length]
   obtain⟨v2,h2,c1,c2,c3⟩:=AF kH pY yj U (b.drop (b.length-4))
   rw[c1,aa]
   show blt EE h2 .len #[90] [v2] _
   rw[c3.len TB,List.length_map]
   have TA:(b.drop (b.length-4)).length<=4:=so
   have p:aJ b=aJ (b.take (b.length-4)) * 256 ^ (b.drop (b.length-4)).length+aJ (b.drop (b.length-4)):=by
    rw[<-pZ,List.take_append_drop]
   have I:(b.drop (b.length-4)).length=min b.length 4:=so
   generalize hck:b.drop (b.length-4)=j at *
   have o2:=o.fr c2
   have f2:=f1.trans c2
   refine aL.ind (fun s h'=>h'=h2/\∃ i:Nat,s=[st b,w,vI (b.length-4),xN (aJ (j.take i)),v2,vI j.length,vI i]/\i<=j.length) (fun s _=>match aI s 6 with | .int _ i=>j.length-i.toNat | _=>0) ?_ ⟨rfl,0,rfl,Nat.zero_le _⟩
   rintro s h' ⟨rfl,i,rfl,hi⟩
   show wm _ _ _ (st b) w (vI (b.length-4)) (xN (aJ (j.take i))) v2 (vI j.length) (vI i) h'
   unfold wm aq
   rw[bI,aa,ae]
   by_cases C:i<j.length
   . rw[if_pos (by simp[C])]
     have vt:i<(j.map fun b=>v8 b.toNat).length:=sp C
     rw[c3.rd vt,List.getElem_map,show (.int .u64 8:Value)=dD 8 from rfl,Gs,aa,dI yj iB,aa]
     have J:aJ (j.take i)<16777216:=by
      have:=wj (j.take i)
      have h3:256 ^ (j.take i).length<=256 ^ 3:=Nat.pow_le_pow_right om so
      have:256 ^ 3=16777216:=dc
      omega
     have hc:j[i].toNat<256:=j[i].toNat_lt
     rw[show min 8 IntKind.u32.bits=8 from rfl,wrap_u32,Nat.shiftLeft_eq,Nat.mod_eq_of_lt om]
     show af (X.binOp EE .or 160 _ (.int .u32 (IntKind.u32.wrap ((j[i].toNat:Nat):Int)))) _
     rw[wrap_u32,Nat.mod_eq_of_lt (show j[i].toNat<4294967296 by omega),M9,aa,wrap_u32]
     rw[show aJ (j.take i) * 2 ^ 8=aJ (j.take i) <<< 8 from (Nat.shiftLeft_eq _ _).symm,Ab2 _ _ hc,<-Gr j i C]
     have R:aJ (j.take (i+1))<4294967296:=wi so
     rw[Nat.mod_eq_of_lt R,oI,fq,aa,wrap_i64 om]
     refine⟨⟨rfl,i+1,rfl,om⟩,?_⟩
     show j.length-((i+1:Nat):Int).toNat<j.length-(i:Int).toNat
     omega
   . rw[if_neg (by simp[C])]
     have Zz:i=j.length:=om
     subst Zz
     rw[List.take_length]
     refine TC TL (f2) o2 so rfl rfl ?_
     intro v' PJ g1 g2
     rw[dJ kH PJ b none (some (vI (b.length-4))) (bm .i64 _ _ _ om) (fw _ _),aa,List.drop_zero]
     have J:aJ j<4294967296:=wi TA
     refine⟨⟨g1,b.take (b.length-4),v',ns++[aJ j],rfl,by simpa [uL] using g2,hl.snoc J,?_,?_⟩,?_⟩
     . rw[hv,p,mQ,List.length_append,List.length_singleton,Nat.pow_succ]
       have key:∀ (P B c:Nat),P * (B * 4294967296+c)=P * c+P * 4294967296 * B:=by
        intro P B c
        rw[Nat.mul_add,Nat.mul_assoc P 4294967296 B,Nat.mul_comm B,Nat.add_comm]
       by_cases h4:4<=b.length
       . rw[I,Nat.min_eq_right h4,KZ,key]
         exact (Nat.add_assoc _ _ _).symm
       . have e0:b.length-4=0:=om
         rw[e0,List.take_zero,Gu,Nat.zero_mul,Nat.zero_add,Nat.mul_zero,Nat.add_zero]
     . simp;omega
     . show (b.take (b.length-4)).length<b.length
       simp;omega
theorem zM {h j:H} {v:Value} {vs:List Value} (r:bk j v vs) (e:TypeId) (K:Value->H->Prop):dW h e v K=K (.pointer (some ⟨h.next,0,none⟩)) (X.newRow h e [v] 0):=by
 cases r with
 | nil=>rw[Gv]
 | «at» b o c _ hb hr hc=>rw[Gv]
abbrev RE (f:FuncId) (p:Nat):Value:=.func (.func f) ⟨[]⟩ ⟨[.pointer (some ⟨p,0,none⟩)]⟩
theorem M_ {h:H} {v:Value} {vs:List Value} (r:bk h v vs):CP ct [v] h fun w h'=>w=RE bL h.next/\h'=X.newRow h 162 [v] 0:=by
 refine .call (lj ?_)
 unfold gl aq
 rw[zM r]
 exact⟨rfl,rfl⟩
theorem M' {h:H} {l c:Nat} {o:kJ} (hc:c≠l):(h.put l o).row c=h.row c:=bg ((H.d' _ _ _ _).trans (if_neg hc))
theorem _root_.Go.X.bk.Dw {h:H} {v:Value} {vs:List Value} (r:bk h v vs) {l:Nat} (o:kJ) (hl:∀ b o n c,v=.slice (some ⟨b,o,none⟩) n c->b≠l):bk (h.put l o) v vs:=by
 cases r with
 | nil=>exact .nil
 | «at» b j c _ hb hr hc=>exact .at b j c _ hb (by rw[M' (hl _ _ _ _ rfl)];exact hr) hc
theorem yk {v:Value} {vs:List Value} {p:Nat} {h:H} {K:AE->H->Prop} {J:List Value->H->(AE->H->Prop)->Prop} (hlen:vs.length<=bl)
 (Inv:Nat->H->Prop) (Xr:H->Prop)
 (R:∀ i h' o,Inv i h'->Inv i (h'.put h.next o)) (U:∀ h' o,Xr h'->Xr (h'.put h.next o))
 (C:∀ i h',Inv i h'->h'.row p=some ⟨[v],162,0,0,false⟩/\bk h' v vs)
 (init:∀ o,Inv vs.length (h.new o))
 (step:∀ i (hi:i<vs.length) h' KR,Inv (i+1) h'->(∀ h2,Inv i h2->h2.get h.next=h'.get h.next->KR .normal h2)->(∀ h2,Xr h2->h2.get h.next=h'.get h.next->KR .ret h2)->J [vI i,vs[i]] h' KR)
 (fin:∀ h',Inv 0 h'->K .normal (h'.del h.next)) (Ab3:∀ h',Xr h'->K .ret (h'.del h.next)) :
 uN PP (RE bL p) 2 (fun s g bz KR=>bz g fun b=>J s b KR) h K:=by
 have qS:bl=1000000000:=rfl
 refine⟨fun lp PK TD I=>?_⟩
 refine⟨bL,[],[.pointer (some ⟨p,0,none⟩)],fun w h'=>(h'.get h.next=some (lp .ready none)/\Inv 0 h')\/(h'.get h.next=some (lp .done (some .ret))/\Xr h'),rfl,?_,?_⟩
 . refine kK ?_
   unfold fL aq
   have i0:=init (lp .ready none)
   have g0:(h.new (lp .ready none)).get h.next=some (lp .ready none):=(H.eF _ _ _).trans (if_pos rfl)
   generalize h.new (lp .ready none)=h1 at i0 g0
   obtain⟨r1,r2⟩:=C _ _ i0
   have cp:∀ {h':H},h'.row p=some ⟨[v],162,0,0,false⟩->aw h' (.pointer (some ⟨p,0,none⟩))=some v:=by
    intro h' hr
    rw[c9,hr];rfl
   rw[cp r1,aa,r2.len TL,Go.X.binOp_sub,aa,wrap64 om om]
   refine aL.ind (fun s h'=>h'.get h.next=some (lp .ready none)/\∃ i:Nat,s=[.func (.yield h.next) ⟨[]⟩ ⟨[]⟩,.pointer (some ⟨p,0,none⟩),.int .i64 ((i:Int)-1)]/\i<=vs.length/\Inv i h') (fun s _=>match aI s 2 with | .int _ i=>(i+1).toNat | _=>0) ?_ ⟨g0,vs.length,rfl,Nat.le_refl _,i0⟩
   rintro s h2 ⟨g2,i,rfl,hi,inv⟩
   show cT _ _ (.func (.yield h.next) ⟨[]⟩ ⟨[]⟩) (.pointer (some ⟨p,0,none⟩)) (.int .i64 ((i:Int)-1)) h2
   unfold cT aq
   rw[Go.X.binOp_geq,aa,ae]
   cases i with
   | zero =>
    rw[if_neg sm]
    exact .inl ⟨g2,inv⟩
   | succ j =>
    rw[if_pos sm]
    obtain⟨s1,s2⟩:=C _ _ inv
    have ej:(((j+1:Nat):Int)-1)=((j:Nat):Int):=om
    rw[cp s1,aa,ej,s2.rd om]
    refine⟨⟨TD h2 h.next .ready none g2,⟨I h.next [vI j,vs[j]] h2 none _ g2 rfl ?_⟩⟩⟩
    refine⟨none,g2,?_⟩
    have gb:(h2.put h.next (lp .busy none)).get h.next=some (lp .busy none):=(H.d' _ _ _ _).trans (if_pos rfl)
    refine step j om _ _ (R _ _ _ inv) (fun h3 i3 e3=>?_) (fun h3 x3 e3=>?_)
    . refine⟨⟨.busy,none,e3.trans gb⟩,?_⟩
      show af (X.unOp .not (.bool true)) _
      rw[aY,aa,Bool.not_true,zL,Go.X.binOp_sub,aa,wrap64 om om]
      refine⟨⟨(H.d' _ _ _ _).trans (if_pos rfl),j,rfl,om,R _ _ _ i3⟩,?_⟩
      show ((j:Int)-1+1).toNat<((j:Int)+1).toNat
      omega
    . refine⟨⟨.busy,none,e3.trans gb⟩,?_⟩
      show af (X.unOp .not (.bool false)) _
      rw[aY,aa,Bool.not_false,B7]
      exact .inr ⟨(H.d' _ _ _ _).trans (if_pos rfl),U _ _ x3⟩
 . rintro w h' (⟨g,i⟩ | ⟨g,x⟩)
   . exact⟨.normal,.ready,g,sm,fin _ i⟩
   . exact⟨.ret,.done,g,sm,Ab3 _ x⟩
end Go.Proofs.YtikojelnedfmpaaGreatDoor
