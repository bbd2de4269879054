/- Part 1 of a proof: Base, Own, Rep, Tree, Pv, PvM, PvQ, PvQ2, PvL, PvL2, PvL3, PvE, PvC, PvRow0, PvP, PvR, PvS -/
import Derived.WalkSpells
import Derived.WalkLawsBesides
import Derived.Lib.Hide
import Derived.Deep.MidRow
import Derived.Great.BuildSlice
namespace Go.Proofs.YtaofmfkcfmcmpaaGreatDoor
open Go.RowKit
set_option maxHeartbeats 4000000
set_option maxRecDepth 100000
open List
universe u_
theorem sI {α : Type u_} (a b : α) : (some a = some b) = (a = b) := Option.some.injEq a b
theorem lR {n : Nat} : n <= n := Nat.le_refl n
abbrev L8 := List UInt8
abbrev LP (α : Type) := List (List α)
section
def i64ok (n:Int):Prop:=-9223372036854775808 <= n /\ n <= 9223372036854775807
def strok (l:L8):Prop:=l.length <= 9223372036854775807
theorem i64ok_wf {n:Int} (h:(Lit.int .i64 n).wf = true):i64ok n:=by
 simp [Lit.wf,IntKind.min,IntKind.max,IntKind.bits,IntKind.signed] at h; exact ⟨by omega,by omega⟩
def byteOf (m:Nat):UInt8:=UInt8.ofNat (m % 256)
theorem zeL (m:Nat):(byteOf m).toNat = m % 256:=by simp [byteOf]
def be:Nat -> Nat -> L8
 | 0,_ => []
 | k + 1,n => be k (n / 256) ++ [byteOf n]
theorem be_length (k n:Nat):(be k n).length = k:=by
 induction k generalizing n with
 | zero => rfl
 | succ k ih => simp [be,ih]
attribute [go_sem] be_length
def hd (m n:Nat):L8 :=
 if n < 24 then be 1 (m * 32 + n)
 else if n < 256 then be 1 (m * 32 + 24) ++ be 1 n
 else if n < 65536 then be 1 (m * 32 + 25) ++ be 2 n
 else if n < 4294967296 then be 1 (m * 32 + 26) ++ be 4 n
 else be 1 (m * 32 + 27) ++ be 8 n
theorem zag {B:Nat} {a b c:World} (h:Below B a b) (k:Below b.heap.size b c) (hB:B <= a.heap.size):Below B a c:=h.trans (k.mono (Nat.le_trans hB h.size))
theorem zaP {W w1:World} (hb:Below W.heap.size W w1):(∀ b o,b < W.heap.size -> w1.cell? ⟨b,o,none⟩ = W.cell? ⟨b,o,none⟩) /\ (∀ b o,b < W.heap.size -> w1.frozen? ⟨b,o,none⟩ = W.frozen? ⟨b,o,none⟩) :=
 ⟨fun b o h => hb.cell (p:=⟨b,o,none⟩) h,fun b o h => hb.frozen (p:=⟨b,o,none⟩) h⟩
theorem zeM (a b:L8):(ByteArray.mk a.toArray) ++ (ByteArray.mk b.toArray) = ByteArray.mk (a ++ b).toArray:=by
 apply ByteArray.ext; simp [ByteArray.data_append]
attribute [go_sem] zeM
def crcBit (x:Nat):Nat:=if x % 2 = 1 then (x / 2) ^^^ 3988292384 else x / 2
def crcBits:Nat -> Nat -> Nat
 | 0,x => x
 | k + 1,x => crcBit (crcBits k x)
def crcByte (x:Nat) (b:UInt8):Nat:=crcBits 8 (x ^^^ b.toNat)
def crcRaw (l:L8):Nat:=l.foldl crcByte 4294967295
def crc (l:L8):Nat:=crcRaw l ^^^ 4294967295
def frame (l:L8):L8:=if l.length <= 100000 then hd 2 l.length ++ l ++ be 4 (crc l) else []
theorem zeN (l:L8) (k:Nat) (h:k < l.length):l.take (k + 1) = l.take k ++ [l[k]]:=by
 rw [take_succ_eq_append_getElem h]
theorem byteIdx (l:L8) (k:Nat) (h:k < (ByteArray.mk l.toArray).size):(ByteArray.mk l.toArray)[k] = l[k]'(by simpa [ByteArray.size] using h):=rfl
attribute [go_sem] byteIdx
theorem byte_mod32 (b:UInt8):((b.toNat:Nat):Int) % 4294967296 = (b.toNat:Nat):=by have:=b.toNat_lt; omega
attribute [go_sem] byte_mod32
theorem byte_wrap (b:UInt8):IntKind.i64.wrap ((b.toNat:Nat):Int) = (b.toNat:Nat):=by have:=b.toNat_lt; exact IntWalk.i64_in _ (by omega)
attribute [go_sem] byte_wrap
theorem zba {k:IntKind} {a b:Int} (h:a = b):Ending.returned (.int k a) = .returned (.int k b):=by rw [h]
theorem zar {a b:Bool} (h:a = b):Ending.returned (.bool a) = .returned (.bool b):=by rw [h]
theorem zb7 {a b:L8} (h:a = b):Ending.returned (.string ⟨a.toArray⟩) = .returned (.string ⟨b.toArray⟩):=by rw [h]
theorem zcP (l:L8) (j x:Nat):(ByteArray.mk l.toArray).extract j x = ByteArray.mk ((l.drop j).take (x - j)).toArray:=by
 apply ByteArray.ext
 simp only [ByteArray.data_extract,extract_toArray,extract_eq_take_drop]
attribute [go_sem] zcP
theorem zee (l:L8) (j:Nat):(l.drop j).take (l.length - j) = l.drop j:=take_of_length_le (by simp)
attribute [go_sem] zee
end
section
structure ElemTy (P:Program) (t e:TypeId) (size bytes:Nat):Prop where
 under:P.underlying t = some (.slice e)
 info:∃ i z,P.info? e = some i /\ i.zero = some z /\ i.size = size /\ i.bytes = bytes /\ z.cells.size = size
 pos:0 < size
theorem ElemTy.mk' {P:Program} {t e:TypeId} {size bytes:Nat} {z:Value} (h:P.underlying t = some (.slice e))
  (hi:(P.info? e).map (fun i => (i.zero,i.size,i.bytes)) = some (some z,size,bytes)) (hz:z.cells.size = size) (hp:0 < size):ElemTy P t e size bytes:=by
 obtain ⟨i,h1,h2,h3,h4⟩:=info_parts hi;exact ⟨h,⟨i,z,h1,h2,h3,h4,hz⟩,hp⟩
theorem zdW {B:Nat} {a w w':World} {v:Value} {e size n:Nat} {xs:List Value} (h:Below B a w) (hown:w.ownsRow B e size v n xs) (hg:w.grownBy w' v.ownBlock) (hB:B <= w.heap.size):Below B a w' :=
 h.grown hg hB fun k hk => (hown.lt k hk).1
theorem wp_app {P:Program} {ops:Array Oper} {rest:List Oper} {o:Oper} {a:Act} {w:World} {Q:Exit -> Act -> World -> Prop} {t e:TypeId} {size bytes:Nat} {s x:Operand} {v:Value} {n:Nat} {xs:List Value}
  (T:ElemTy P t e size bytes) (hgd:o.guard = none) (ho:o.op = .call { callee:=.builtin .append,args:=#[s,x],argTypes:=#[t,t] })
  (B:Nat) (hown:w.ownsRow B e size v n xs) (hs:a.eval s = v) (ad:Addr) (m c:Nat) (news:List Value) (hx:a.eval x = .slice (some ad) m c)
  (hl:news.length = m * size) (hnews:∀ j u,news[j]? = some u -> w.cell? (ad.add j) = some u) (h1:∀ u ∈ news,u.oneCell' = true)
  (h63:n + m <= 4294967296) (hby:bytes <= 32768) (hB:B <= w.heap.size)
  (h:∀ v' w',w'.ownsRow B e size v' (n + m) (xs ++ news) -> w.grownBy w' v.ownBlock -> (v' = .slice none 0 0 ↔ v = .slice none 0 0 /\ m = 0) -> wpList P ops Q rest (a.put o.dst v') w'):wpList P ops Q (o :: rest) a w:=by
 obtain ⟨i,z,h1',h2,h3,h4,h5⟩:=T.info
 exact wpList_append_own w hgd s x t ho B e i z size bytes T.under h1' h2 h3 h4 h5 T.pos v n xs hs hown ad m c news hx hl hnews h1 (by unfold maxLen; omega)
  (Nat.le_trans (Nat.mul_le_mul h63 hby) (by decide)) hB h
theorem zav (b o j:Nat):(⟨b,o,none⟩:Addr).add j = ⟨b,o + j,none⟩:=by unfold Addr.add; split <;> simp_all
def cb:Option Value -> UInt8
 | some (.int _ n) => byteOf n.toNat
 | _ => 0
def isB:Option Value -> Bool
 | some (.int .u8 _) => true
 | _ => false
theorem cb_some (k:IntKind) (n:Int):cb (some (.int k n)) = byteOf n.toNat:=rfl
attribute [go_sem] cb_some
theorem isB_some (n:Int):isB (some (.int .u8 n)) = true:=rfl
attribute [go_sem] isB_some
theorem conv1 {P:Program} {src dst u8:TypeId} (hs:P.underlying src = some (.slice u8)) (he:P.underlying u8 = some (.int .u8)) (hd:P.underlying dst = some .string) (b c:Nat) (w:World)
  (h:isB (w.cell? ⟨b,0,none⟩) = true):(convert src dst (.slice (some ⟨b,0,none⟩) 1 c)).run P w = .ok (.string ⟨[cb (w.cell? ⟨b,0,none⟩)].toArray⟩) w:=by
 match hc:w.cell? ⟨b,0,none⟩,h with
 | some (.int .u8 n),_ =>
  have:=run_convert_bytes_arg (P:=P) w src u8 hs he b 0 1 c [n] rfl (fun i hi => by
   obtain rfl:i = 0:=by omega
   simpa using hc) dst hd
  rw [this]
  have:byteOf n.toNat = UInt8.ofNat n.toNat:=by apply UInt8.toNat_inj.1; simp [byteOf]
  simp [cb,this,strOfNums]
theorem zbb {v:Option Value} (h:isB v = true):∃ n,v = some (.int .u8 n):=by
 match v,h with
 | some (.int .u8 n),_ => exact ⟨n,rfl⟩
theorem cb_ofNat (n:Int):UInt8.ofNat n.toNat = byteOf n.toNat:=by apply UInt8.toNat_inj.1; simp [byteOf]
theorem convs {P:Program} {src dst u8:TypeId} (hs:P.underlying src = some (.slice u8)) (he:P.underlying u8 = some (.int .u8)) (hd:P.underlying dst = some .string) (b c:Nat) (w:World) (ns:List Int)
  (h:∀ i (hi:i < ns.length),w.cell? ⟨b,i,none⟩ = some (.int .u8 ns[i])):(convert src dst (.slice (some ⟨b,0,none⟩) ns.length c)).run P w = .ok (.string ⟨(ns.map fun n => byteOf n.toNat).toArray⟩) w:=by
 have:=run_convert_bytes_arg (P:=P) w src u8 hs he b 0 ns.length c ns rfl (fun i hi => by rw [getD_eq_getElem?_getD,getElem?_eq_getElem hi,Nat.zero_add]; exact h i hi) dst hd
 rw [this]; simp [strOfNums,cb_ofNat]
theorem conv2 {P:Program} {src dst u8:TypeId} (hs:P.underlying src = some (.slice u8)) (he:P.underlying u8 = some (.int .u8)) (hd:P.underlying dst = some .string) (b c:Nat) (w:World)
  (h:isB (w.cell? ⟨b,0,none⟩) = true) (h1:isB (w.cell? ⟨b,1,none⟩) = true):(convert src dst (.slice (some ⟨b,0,none⟩) 2 c)).run P w = .ok (.string ⟨[cb (w.cell? ⟨b,0,none⟩),cb (w.cell? ⟨b,1,none⟩)].toArray⟩) w:=by
 obtain ⟨n,e⟩:=zbb h; obtain ⟨n1,e1⟩:=zbb h1
 have:=convs hs he hd b c w [n,n1] (by intro i hi; match i,hi with | 0,_ => exact e | 1,_ => exact e1)
 rw [e,e1]; exact this
theorem conv3 {P:Program} {src dst u8:TypeId} (hs:P.underlying src = some (.slice u8)) (he:P.underlying u8 = some (.int .u8)) (hd:P.underlying dst = some .string) (b c:Nat) (w:World)
  (h:isB (w.cell? ⟨b,0,none⟩) = true) (h1:isB (w.cell? ⟨b,1,none⟩) = true) (h2:isB (w.cell? ⟨b,2,none⟩) = true):(convert src dst (.slice (some ⟨b,0,none⟩) 3 c)).run P w = .ok (.string ⟨[cb (w.cell? ⟨b,0,none⟩),cb (w.cell? ⟨b,1,none⟩),cb (w.cell? ⟨b,2,none⟩)].toArray⟩) w:=by
 obtain ⟨n,e⟩:=zbb h; obtain ⟨n1,e1⟩:=zbb h1; obtain ⟨n2,e2⟩:=zbb h2
 have:=convs hs he hd b c w [n,n1,n2] (by intro i hi; match i,hi with | 0,_ => exact e | 1,_ => exact e1 | 2,_ => exact e2)
 rw [e,e1,e2]; exact this
theorem conv4 {P:Program} {src dst u8:TypeId} (hs:P.underlying src = some (.slice u8)) (he:P.underlying u8 = some (.int .u8)) (hd:P.underlying dst = some .string) (b c:Nat) (w:World)
  (h:isB (w.cell? ⟨b,0,none⟩) = true) (h1:isB (w.cell? ⟨b,1,none⟩) = true) (h2:isB (w.cell? ⟨b,2,none⟩) = true) (h3:isB (w.cell? ⟨b,3,none⟩) = true):(convert src dst (.slice (some ⟨b,0,none⟩) 4 c)).run P w = .ok (.string ⟨[cb (w.cell? ⟨b,0,none⟩),cb (w.cell? ⟨b,1,none⟩),cb (w.cell? ⟨b,2,none⟩),cb (w.cell? ⟨b,3,none⟩)].toArray⟩) w:=by
 obtain ⟨n,e⟩:=zbb h; obtain ⟨n1,e1⟩:=zbb h1; obtain ⟨n2,e2⟩:=zbb h2; obtain ⟨n3,e3⟩:=zbb h3
 have:=convs hs he hd b c w [n,n1,n2,n3] (by intro i hi; match i,hi with | 0,_ => exact e | 1,_ => exact e1 | 2,_ => exact e2 | 3,_ => exact e3)
 rw [e,e1,e2,e3]; exact this
def OwnR (w:World) (B e:Nat) (v:Value) (xs:List Value):Prop:=w.ownsRow B e 1 v xs.length xs
theorem wp_appR {P:Program} {ops:Array Oper} {rest:List Oper} {o:Oper} {a:Act} {w:World} {Q:Exit -> Act -> World -> Prop} {t e:TypeId} {bytes:Nat} {s x:Operand} {v:Value} {xs ys:List Value}
  (T:ElemTy P t e 1 bytes) (hgd:o.guard = none) (ho:o.op = .call { callee:=.builtin .append,args:=#[s,x],argTypes:=#[t,t] })
  (B:Nat) (hown:OwnR w B e v xs) (hs:a.eval s = v) (ad:Addr) (c:Nat) (hx:a.eval x = .slice (some ad) ys.length c)
  (hnews:∀ j u,ys[j]? = some u -> w.cell? (ad.add j) = some u) (h1:∀ u ∈ ys,u.oneCell' = true)
  (h63:xs.length + ys.length <= 4294967296) (hby:bytes <= 32768) (hB:B <= w.heap.size)
  (h:∀ v' w',OwnR w' B e v' (xs ++ ys) -> w.grownBy w' v.ownBlock -> (v' = .slice none 0 0 -> v = .slice none 0 0) -> wpList P ops Q rest (a.put o.dst v') w'):wpList P ops Q (o :: rest) a w:=by
 refine wp_app T hgd ho B hown hs ad ys.length c _ hx (by simp) hnews h1 h63 hby hB ?_;intro v' w' h1 h2 h3;refine h v' w' ?_ h2 (fun e => (h3.1 e).1);unfold OwnR;rw [length_append]; exact h1
theorem OwnR.form {w:World} {B e:Nat} {v:Value} {xs:List Value} (h:OwnR w B e v xs):(v = .slice none 0 0 /\ xs = []) \/ ∃ g c,v = .slice (some ⟨g,0,none⟩) xs.length c /\ B <= g:=by
 obtain ⟨_,h | ⟨g,cap,cur,h1,h2,_⟩⟩:=h
 ·exact .inl ⟨h.1,length_eq_zero_iff.1 h.2⟩
 ·exact .inr ⟨g,cap,h1,h2⟩
theorem OwnR.any {w:World} {B e:Nat} {v:Value} {xs:List Value} (h:OwnR w B e v xs):∃ a c,v = .slice a xs.length c:=by
 rcases h.form with ⟨rfl,rfl⟩ | ⟨g,c,rfl,_⟩
 ·exact ⟨_,_,rfl⟩
 ·exact ⟨_,_,rfl⟩
theorem OwnR.start {w:World} {e:Nat}:OwnR (w.alloc (.cells #[] e)) w.heap.size e (.slice (some ⟨w.heap.size,0,none⟩) 0 0) [] :=
 World.ownsRow_made (e:=e) (size:=1) w #[] 0 lR (by decide) rfl
theorem OwnR.alloc {w:World} {B e:Nat} {v:Value} {xs:List Value} (h:OwnR w B e v xs) (o:Obj):OwnR (w.alloc o) B e v xs:=World.ownsRow.alloc h o
theorem OwnR.grown {a w w':World} {B e:Nat} {v:Value} {xs:List Value} (h:OwnR w B e v xs) (hb:Below B a w) (hg:w.grownBy w' v.ownBlock) (hB:B <= w.heap.size):Below B a w':=zdW hb h hg hB
theorem OwnR.below {w w':World} {B e:Nat} {v:Value} {xs:List Value} (h:OwnR w B e v xs) (hb:Below w.heap.size w w'):OwnR w' B e v xs:=by
 obtain ⟨h1,h | ⟨g,cap,cur,h2,h3,h4,h5⟩⟩:=h
 ·exact ⟨h1,.inl h⟩
 ·exact ⟨h1,.inr ⟨g,cap,cur,h2,h3,by rw [hb.block g (by
   by_cases hlt:g < w.heap.size
   ·exact hlt
   ·simp [Array.getElem?_eq_none (Nat.not_lt.1 hlt)] at h4)]; exact h4,h5⟩⟩
end
section
inductive D where
 | one (v:Value)
 | agg (fs:List D)
 | sl (n:Nat) (es:List D)
mutual
def D.width:D -> Nat
 | .one _ => 1
 | .agg fs => D.widths fs
 | .sl _ _ => 1
def D.widths:List D -> Nat
 | [] => 0
 | d :: ds => D.width d + D.widths ds
end
mutual
def RepC (S:Nat -> Prop) (w:World):D -> List Value -> Prop
 | .one v,cs => cs = [v]
 | .agg fs,cs => RepCs S w fs cs
 | .sl n es,cs => ∃ a c,cs = [.slice a es.length c] /\ (es ≠ [] -> 0 < n /\ es.length <= c /\ c <= maxLen /\ ∃ b o xs,a = some ⟨b,o,none⟩ /\ S b /\
   (∀ j u,xs[j]? = some u -> w.cell? ⟨b,o + j,none⟩ = some u) /\ (∀ e ∈ es,D.width e = n) /\ RepCs S w es xs)
def RepCs (S:Nat -> Prop) (w:World):List D -> List Value -> Prop
 | [],cs => cs = []
 | d :: ds,cs => ∃ c1 c2,cs = c1 ++ c2 /\ c1.length = D.width d /\ RepC S w d c1 /\ RepCs S w ds c2
end
mutual
theorem RepC.len {S:Nat -> Prop} {w:World}:∀ {d:D} {cs:List Value},RepC S w d cs -> cs.length = D.width d
 | .one v,cs,h => by simp only [RepC] at h; subst h; rfl
 | .agg fs,cs,h => by simp only [RepC] at h; simp only [D.width]; exact RepCs.len h
 | .sl n es,cs,h => by simp only [RepC] at h; obtain ⟨a,c,rfl,_⟩:=h; rfl
theorem RepCs.len {S:Nat -> Prop} {w:World}:∀ {ds:List D} {cs:List Value},RepCs S w ds cs -> cs.length = D.widths ds
 | [],cs,h => by simp only [RepCs] at h; subst h; rfl
 | d :: ds,cs,h => by
  simp only [RepCs] at h; obtain ⟨c1,c2,rfl,h1,_,h2⟩:=h
  simp only [D.widths,length_append,h1,RepCs.len h2]
end
def SameOn (S:Nat -> Prop) (w w':World):Prop:=∀ b,S b -> w'.heap[b]? = w.heap[b]?
theorem SameOn.cell {S:Nat -> Prop} {w w':World} (h:SameOn S w w') {b o:Nat} (hb:S b):w'.cell? ⟨b,o,none⟩ = w.cell? ⟨b,o,none⟩ :=
 World.cell?_of_block (a:=⟨b,o,none⟩) (h b hb)
mutual
theorem RepC.frame {S:Nat -> Prop} {w w':World} (hs:SameOn S w w'):∀ {d:D} {cs:List Value},RepC S w d cs -> RepC S w' d cs
 | .one v,cs,h => by simp only [RepC] at h ⊢; exact h
 | .agg fs,cs,h => by simp only [RepC] at h ⊢; exact RepCs.frame hs h
 | .sl n es,cs,h => by
  simp only [RepC] at h ⊢; obtain ⟨a,c,hc,h⟩:=h
  refine ⟨a,c,hc,fun hne => ?_⟩;obtain ⟨hn,h1,h2,b,o,xs,ha,hb,hx,hw,hr⟩:=h hne;exact ⟨hn,h1,h2,b,o,xs,ha,hb,fun j u hj => by rw [hs.cell hb]; exact hx j u hj,hw,RepCs.frame hs hr⟩
theorem RepCs.frame {S:Nat -> Prop} {w w':World} (hs:SameOn S w w'):∀ {ds:List D} {cs:List Value},RepCs S w ds cs -> RepCs S w' ds cs
 | [],cs,h => by simp only [RepCs] at h ⊢; exact h
 | d :: ds,cs,h => by
  simp only [RepCs] at h ⊢; obtain ⟨c1,c2,hc,h1,h2,h3⟩:=h
  exact ⟨c1,c2,hc,h1,RepC.frame hs h2,RepCs.frame hs h3⟩
end
mutual
theorem RepC.mono {S T:Nat -> Prop} {w:World} (hs:∀ b,b < w.heap.size -> S b -> T b):∀ {d:D} {cs:List Value},RepC S w d cs -> RepC T w d cs
 | .one v,cs,h => by simp only [RepC] at h ⊢; exact h
 | .agg fs,cs,h => by simp only [RepC] at h ⊢; exact RepCs.mono hs h
 | .sl n es,cs,h => by
  simp only [RepC] at h ⊢; obtain ⟨a,c,hc,h⟩:=h
  refine ⟨a,c,hc,fun hne => ?_⟩;obtain ⟨hn,h1,h2,b,o,xs,ha,hb,hx,hw,hr⟩:=h hne;refine ⟨hn,h1,h2,b,o,xs,ha,hs b ?_ hb,hx,hw,RepCs.mono hs hr⟩;have hl:=RepCs.len hr
  match es,hne,hw,hl with
  | e :: es,_,hw,hl =>
   simp only [D.widths,hw e (by simp)] at hl
   have:=hx 0 (xs[0]'(by omega)) (by simp)
   by_cases hlt:b < w.heap.size
   ·exact hlt
   ·simp [World.cell?,Array.getElem?_eq_none (Nat.not_lt.1 hlt)] at this
theorem RepCs.mono {S T:Nat -> Prop} {w:World} (hs:∀ b,b < w.heap.size -> S b -> T b):∀ {ds:List D} {cs:List Value},RepCs S w ds cs -> RepCs T w ds cs
 | [],cs,h => by simp only [RepCs] at h ⊢; exact h
 | d :: ds,cs,h => by
  simp only [RepCs] at h ⊢; obtain ⟨c1,c2,hc,h1,h2,h3⟩:=h
  exact ⟨c1,c2,hc,h1,RepC.mono hs h2,RepCs.mono hs h3⟩
end
theorem RepCs.get {S:Nat -> Prop} {w:World} {n:Nat}:∀ {ds:List D} {cs:List Value},RepCs S w ds cs -> (∀ e ∈ ds,D.width e = n) -> ∀ i (hi:i < ds.length),
  ∃ c,c.length = n /\ RepC S w ds[i] c /\ ∀ j,j < n -> cs[n * i + j]? = c[j]?
 | [],cs,h,hw,i,hi => by simp at hi
 | d :: ds,cs,h,hw,i,hi => by
  simp only [RepCs] at h; obtain ⟨c1,c2,rfl,h1,h2,h3⟩:=h
  have hd:=hw d (by simp)
  match i with
  | 0 => exact ⟨c1,by omega,h2,fun j hj => by simp; rw [getElem?_append_left (by omega)]⟩
  | i + 1 =>
   obtain ⟨c,hc1,hc2,hc3⟩:=RepCs.get h3 (fun e he => hw e (by simp [he])) i (by simpa using hi);refine ⟨c,hc1,by simpa using hc2,fun j hj => ?_⟩;rw [<- hc3 j hj,getElem?_append_right (by rw [h1,hd,Nat.mul_succ]; omega)]
   congr 1; rw [h1,hd,Nat.mul_succ]; omega
def Rd (w:World) (d:D) (cs:List Value):Prop:=RepC (· < w.heap.size) w d cs
theorem Rd.of {S:Nat -> Prop} {w:World} {d:D} {cs:List Value} (h:RepC S w d cs):Rd w d cs:=RepC.mono (fun _ hb _ => hb) h
theorem Rd.below {w w':World} {d:D} {cs:List Value} (h:Rd w d cs) (hb:Below w.heap.size w w'):Rd w' d cs :=
 Rd.of (RepC.frame (fun b hlt => hb.block b hlt) h)
theorem Rd.alloc {w:World} {d:D} {cs:List Value} (h:Rd w d cs) (o:Obj):Rd (w.alloc o) d cs:=h.below ((Below.refl _ _).alloc lR o)
theorem Rd.drew {w:World} {d:D} {cs:List Value} (h:Rd w d cs):Rd w.drew d cs:=h.below ((Below.refl _ _).drew)
theorem Rd.slice {w:World} {n:Nat} {es:List D} {v:Value} (h:Rd w (.sl n es) [v]) :
  ∃ a c,v = .slice a es.length c /\ (es ≠ [] -> 0 < n /\ es.length <= c /\ c <= maxLen /\ ∃ b o,a = some ⟨b,o,none⟩ /\ b < w.heap.size /\
   ∀ i (hi:i < es.length),∃ cs,cs.length = n /\ Rd w es[i] cs /\ ∀ j u,cs[j]? = some u -> w.cell? ⟨b,o + (n * i + j),none⟩ = some u):=by
 simp only [Rd,RepC] at h;obtain ⟨a,c,hv,h⟩:=h;simp only [cons.injEq,and_true] at hv;refine ⟨a,c,hv,fun hne => ?_⟩;obtain ⟨hn,h1,h2,b,o,xs,ha,hb,hx,hw,hr⟩:=h hne;refine ⟨hn,h1,h2,b,o,ha,hb,fun i hi => ?_⟩;obtain ⟨cs,hc1,hc2,hc3⟩:=hr.get hw i hi;refine ⟨cs,hc1,hc2,fun j u hj => hx _ _ ?_⟩
 have:j < cs.length:=by
  rcases Nat.lt_or_ge j cs.length with h | h
  ·exact h
  ·simp [getElem?_eq_none h] at hj
 rw [hc3 j (by omega)]; exact hj
def dI (n:Int):D:=.one (.int .i64 n)
def dS (l:List UInt8):D:=.one (.string ⟨l.toArray⟩)
def dSs (ls:List (List UInt8)):D:=.sl 1 (ls.map dS)
end
section
mutual
def TreeC (w:World):D -> List Nat -> List Value -> Prop
 | .one v,fp,cs => fp = [] /\ cs = [v]
 | .agg fs,fp,cs => TreeCs w fs fp cs
 | .sl n es,fp,cs => ∃ a c,cs = [.slice a es.length c] /\ ((es = [] /\ fp = []) \/
   ∃ b fr cur e,a = some ⟨b,0,none⟩ /\ fp = b :: fr /\ w.heap[b]? = some (.cells cur e (0,0)) /\ 0 < n /\ (es.length <= c /\ cur.size = c * n) /\ c <= maxLen /\ (∀ e ∈ es,D.width e = n) /\ TreeCs w es fr (cur.toList.take (n * es.length)))
def TreeCs (w:World):List D -> List Nat -> List Value -> Prop
 | [],fp,cs => fp = [] /\ cs = []
 | d :: ds,fp,cs => ∃ f1 f2 c1 c2,fp = f1 ++ f2 /\ cs = c1 ++ c2 /\ c1.length = D.width d /\ TreeC w d f1 c1 /\ TreeCs w ds f2 c2
end
theorem zao {w:World} {b:Nat} {o:Obj} (h:w.heap[b]? = some o):b < w.heap.size:=by
 by_cases hlt:b < w.heap.size
 ·exact hlt
 ·simp [Array.getElem?_eq_none (Nat.not_lt.1 hlt)] at h
theorem zae {w:World} {b:Nat} {cur:Array Value} {e:TypeId} {fr:Nat × Nat} (h:w.heap[b]? = some (.cells cur e fr)) (j:Nat):w.cell? ⟨b,j,none⟩ = cur[j]?:=by
 simp [World.cell?,h]
mutual
theorem TreeC.lt {w:World}:∀ {d:D} {fp:List Nat} {cs:List Value},TreeC w d fp cs -> ∀ b ∈ fp,b < w.heap.size
 | .one v,fp,cs,h => by simp only [TreeC] at h; obtain ⟨rfl,_⟩:=h; simp
 | .agg fs,fp,cs,h => by simp only [TreeC] at h; exact TreeCs.lt h
 | .sl n es,fp,cs,h => by
  simp only [TreeC] at h;obtain ⟨a,c,_,⟨_,rfl⟩ | ⟨b,fr,cur,e,_,rfl,hb,_,_,_,_,ht⟩⟩:=h
  ·simp
  ·intro x hx; rcases mem_cons.1 hx with rfl | hx
   ·exact zao hb
   ·exact TreeCs.lt ht x hx
theorem TreeCs.lt {w:World}:∀ {ds:List D} {fp:List Nat} {cs:List Value},TreeCs w ds fp cs -> ∀ b ∈ fp,b < w.heap.size
 | [],fp,cs,h => by simp only [TreeCs] at h; obtain ⟨rfl,_⟩:=h; simp
 | d :: ds,fp,cs,h => by
  simp only [TreeCs] at h; obtain ⟨f1,f2,c1,c2,rfl,_,_,h1,h2⟩:=h
  intro x hx; rcases mem_append.1 hx with hx | hx
  ·exact TreeC.lt h1 x hx
  ·exact TreeCs.lt h2 x hx
end
mutual
theorem TreeC.frame {w w':World}:∀ {d:D} {fp:List Nat} {cs:List Value},TreeC w d fp cs -> SameOn (· ∈ fp) w w' -> TreeC w' d fp cs
 | .one v,fp,cs,h,_ => by simp only [TreeC] at h ⊢; exact h
 | .agg fs,fp,cs,h,hs => by simp only [TreeC] at h ⊢; exact TreeCs.frame h hs
 | .sl n es,fp,cs,h,hs => by
  simp only [TreeC] at h ⊢;obtain ⟨a,c,hc,h | ⟨b,fr,cur,e,ha,rfl,hb,hn,h1,h2,hw,ht⟩⟩:=h
  ·exact ⟨a,c,hc,.inl h⟩
  ·exact ⟨a,c,hc,.inr ⟨b,fr,cur,e,ha,rfl,by rw [hs b (by simp)]; exact hb,hn,h1,h2,hw,TreeCs.frame ht fun x hx => hs x (by simp [hx])⟩⟩
theorem TreeCs.frame {w w':World}:∀ {ds:List D} {fp:List Nat} {cs:List Value},TreeCs w ds fp cs -> SameOn (· ∈ fp) w w' -> TreeCs w' ds fp cs
 | [],fp,cs,h,_ => by simp only [TreeCs] at h ⊢; exact h
 | d :: ds,fp,cs,h,hs => by
  simp only [TreeCs] at h ⊢; obtain ⟨f1,f2,c1,c2,rfl,hc,hl,h1,h2⟩:=h
  exact ⟨f1,f2,c1,c2,rfl,hc,hl,TreeC.frame h1 fun x hx => hs x (by simp [hx]),TreeCs.frame h2 fun x hx => hs x (by simp [hx])⟩
end
mutual
theorem TreeC.rep {w:World}:∀ {d:D} {fp:List Nat} {cs:List Value},TreeC w d fp cs -> RepC (· ∈ fp) w d cs
 | .one v,fp,cs,h => by simp only [TreeC] at h; simp only [RepC]; exact h.2
 | .agg fs,fp,cs,h => by simp only [TreeC] at h; simp only [RepC]; exact TreeCs.rep h
 | .sl n es,fp,cs,h => by
  simp only [TreeC] at h; simp only [RepC]
  obtain ⟨a,c,hc,h | ⟨b,fr,cur,e,ha,rfl,hb,hn,h1,h2,hw,ht⟩⟩:=h
  ·exact ⟨a,c,hc,fun hne => absurd h.1 hne⟩
  ·refine ⟨a,c,hc,fun _ => ⟨hn,h1.1,h2,b,0,_,ha,by simp,fun j u hj => ?_,hw,RepCs.mono (fun x _ hx => by simp [hx]) (TreeCs.rep ht)⟩⟩
   rw [Nat.zero_add,zae hb];rw [getElem?_take] at hj
   split at hj
   ·simpa using hj
   ·cases hj
theorem TreeCs.rep {w:World}:∀ {ds:List D} {fp:List Nat} {cs:List Value},TreeCs w ds fp cs -> RepCs (· ∈ fp) w ds cs
 | [],fp,cs,h => by simp only [TreeCs] at h; simp only [RepCs]; exact h.2
 | d :: ds,fp,cs,h => by
  simp only [TreeCs] at h; simp only [RepCs]; obtain ⟨f1,f2,c1,c2,rfl,hc,hl,h1,h2⟩:=h
  exact ⟨c1,c2,hc,hl,RepC.mono (fun x _ hx => by simp [hx]) (TreeC.rep h1),RepCs.mono (fun x _ hx => by simp [hx]) (TreeCs.rep h2)⟩
end
def Own (B:Nat) (w:World) (d:D) (cs:List Value):Prop:=∃ fp,fp.Nodup /\ (∀ b ∈ fp,B <= b) /\ TreeC w d fp cs
def Owns (B:Nat) (w:World) (ds:List D) (cs:List Value):Prop:=∃ fp,fp.Nodup /\ (∀ b ∈ fp,B <= b) /\ TreeCs w ds fp cs
theorem Own.rd {B:Nat} {w:World} {d:D} {cs:List Value} (h:Own B w d cs):Rd w d cs:=by obtain ⟨fp,_,_,h⟩:=h; exact Rd.of h.rep
theorem Own.mono {B B':Nat} {w:World} {d:D} {cs:List Value} (h:Own B w d cs) (hB:B' <= B):Own B' w d cs:=by
 obtain ⟨fp,h1,h2,h⟩:=h; exact ⟨fp,h1,fun b hb => Nat.le_trans hB (h2 b hb),h⟩
theorem Own.setCell {B:Nat} {w:World} {d:D} {cs:List Value} (h:Own B w d cs) {p:Addr} (hp:p.block < B) (v:Value):Own B (w.setCell p v) d cs:=by
 obtain ⟨fp,h1,h2,h⟩:=h; exact ⟨fp,h1,h2,h.frame fun b hx => Below.heap_setCell _ _ _ _ (by have:=h2 b hx; omega)⟩
theorem Own.one {B:Nat} {w:World} (v:Value):Own B w (.one v) [v]:=⟨[],by simp,by simp,by simp [TreeC]⟩
theorem TreeC.len {w:World} {d:D} {fp:List Nat} {cs:List Value} (h:TreeC w d fp cs):cs.length = D.width d:=h.rep.len
theorem TreeCs.len {w:World} {d:List D} {fp:List Nat} {cs:List Value} (h:TreeCs w d fp cs):cs.length = D.widths d:=h.rep.len
theorem TreeCs.append {w:World}:∀ {ds es:List D} {f1 f2:List Nat} {c1 c2:List Value},TreeCs w ds f1 c1 -> TreeCs w es f2 c2 -> TreeCs w (ds ++ es) (f1 ++ f2) (c1 ++ c2)
 | [],es,f1,f2,c1,c2,h,k => by simp only [TreeCs] at h; obtain ⟨rfl,rfl⟩:=h; exact k
 | d :: ds,es,f1,f2,c1,c2,h,k => by
  simp only [TreeCs] at h; obtain ⟨g1,g2,e1,e2,rfl,rfl,hl,h1,h2⟩:=h
  simp only [cons_append,TreeCs];exact ⟨g1,g2 ++ f2,e1,e2 ++ c2,by simp,by simp,hl,h1,TreeCs.append h2 k⟩
theorem TreeCs.one {w:World} {d:D} {fp:List Nat} {cs:List Value} (h:TreeC w d fp cs):TreeCs w [d] fp cs:=by
 simp only [TreeCs]; exact ⟨fp,[],cs,[],by simp,by simp,h.len,h,rfl,rfl⟩
theorem Owns.of1 {B:Nat} {w:World} {d:D} {c:List Value} (h:Own B w d c):Owns B w [d] c:=by
 obtain ⟨fp,h1,h2,h⟩:=h; exact ⟨fp,h1,h2,TreeCs.one h⟩
def Part (B:Nat) (w:World) (g n len:Nat) (ds:List D):Prop :=
 ∃ cur e fp,w.heap[g]? = some (.cells cur e (0,0)) /\ cur.size = n * len /\ B <= g /\ fp.Nodup /\ (∀ b ∈ fp,B <= b /\ b ≠ g) /\ (∀ e ∈ ds,D.width e = n) /\ TreeCs w ds fp (cur.toList.take (n * ds.length))
theorem Part.below {B:Nat} {w w':World} {g n len:Nat} {ds:List D} (h:Part B w g n len ds) (hb:Below w.heap.size w w'):Part B w' g n len ds:=by
 obtain ⟨cur,e,fp,h1,h2,h3,h4,h5,h6,h7⟩:=h;exact ⟨cur,e,fp,by rw [hb.block g (zao h1)]; exact h1,h2,h3,h4,h5,h6,h7.frame fun b hx => hb.block b (h7.lt b hx)⟩
theorem Part.own {B:Nat} {w:World} {g n:Nat} {ds:List D} {c:Nat} (h:Part B w g n ds.length ds) (hn:0 < n) (hc:ds.length = c /\ c <= maxLen):Own B w (.sl n ds) [.slice (some ⟨g,0,none⟩) ds.length c]:=by
 obtain ⟨cur,e,fp,h1,h2,h3,h4,h5,h6,h7⟩:=h;by_cases hne:ds = []
 ·subst hne; exact ⟨[],by simp,by simp,by simp [TreeC]⟩
 ·refine ⟨g :: fp,?_,?_,?_⟩
  ·rw [nodup_cons]; exact ⟨fun hg => (h5 g hg).2 rfl,h4⟩
  ·intro b hb; rcases mem_cons.1 hb with rfl | hb
   ·exact h3
   ·exact (h5 b hb).1
  ·simp only [TreeC]; exact ⟨_,c,rfl,.inr ⟨g,fp,cur,e,rfl,rfl,h1,hn,⟨Nat.le_of_eq hc.1,by rw [h2,Nat.mul_comm,hc.1]⟩,hc.2,h6,h7⟩⟩
theorem run_mk {P:Program} {t e:TypeId} {size bytes:Nat} (T:ElemTy P t e size bytes) (n:Nat) (hn:n <= 4294967296) (hb:bytes <= 32768) :
  ∃ cs:Array Value,cs.size = size * n /\ ∀ w:World,(Instr.makeSlice t (.int .i64 (n:Nat)) (.int .i64 (n:Nat))).run P w = .ok (.slice (some ⟨w.heap.size,0,none⟩) n n) (w.alloc (.cells cs e)):=by
 obtain ⟨i,z,h1,h2,h3,h4,h5⟩:=T.info;refine ⟨madeCells z.cells (n * i.size),?_,fun w => ?_⟩
 ·rw [size_madeCells,h3,Nat.mul_comm]
 ·have:=run_make (P:=P) w t e i z T.under h1 h2 .i64 .i64 (n:Nat) (n:Nat) (by omega) (by omega) (by
   rw [h4]; have:=Nat.mul_le_mul hb hn; have h:((bytes * n:Nat):Int) <= ((32768 * 4294967296:Nat):Int):=by exact_mod_cast this
   rw [Int.natCast_mul] at h; exact Int.le_trans h (by decide)) (by omega)
  simpa using this
theorem zat (w:World) (o:Obj):(w.alloc o).heap[w.heap.size]? = some o:=by show (w.heap.push o)[w.heap.size]? = _; simp
theorem Part.start {w:World} {cs:Array Value} {e:TypeId} {n len:Nat} (h:cs.size = n * len):Part w.heap.size (w.alloc (.cells cs e)) w.heap.size n len [] :=
 ⟨cs,e,[],zat _ _,h,lR,by simp,by simp,by simp,by simp [TreeCs]⟩
def setCells (w:World) (g:Nat):Nat -> List Value -> World
 | _,[] => w
 | o,v :: vs => setCells (w.setCell ⟨g,o,none⟩ v) g (o + 1) vs
def setL (l:List Value):Nat -> List Value -> List Value
 | _,[] => l
 | o,v :: vs => setL (l.set o v) (o + 1) vs
theorem zdf:∀ (c l:List Value) (o:Nat),(setL l o c).length = l.length
 | [],_,_ => rfl
 | v :: vs,l,o => by simp [setL,zdf vs]
theorem zeO:∀ (c l:List Value) (o:Nat),o + c.length <= l.length -> (setL l o c).take (o + c.length) = l.take o ++ c
 | [],l,o,_ => by simp [setL]
 | v :: vs,l,o,h => by
  simp only [length_cons] at h
  have:=zeO vs (l.set o v) (o + 1) (by simp; omega)
  simp only [setL,length_cons];rw [show o + (vs.length + 1) = o + 1 + vs.length by omega,this,take_succ_eq_append_getElem (by simp; omega)];simp [take_set_of_le]
theorem zbd {w:World} {g o:Nat} {cur:Array Value} {e:TypeId} {fr:Nat × Nat} (h:w.heap[g]? = some (.cells cur e fr)) (v:Value):(w.setCell ⟨g,o,none⟩ v).heap[g]? = some (.cells (cur.setIfInBounds o v) e fr):=by
 simp [World.setCell,Array.getElem?_modify,h]
theorem zcj:∀ (c:List Value) (w:World) (g o:Nat) (l:List Value) (e:TypeId) (fr:Nat × Nat),w.heap[g]? = some (.cells l.toArray e fr) -> (setCells w g o c).heap[g]? = some (.cells (setL l o c).toArray e fr)
 | [],w,g,o,l,e,fr,h => h
 | v :: vs,w,g,o,l,e,fr,h => by
  simp only [setCells,setL]
  have:=zbd (o:=o) h v
  rw [setIfInBounds_toArray] at this;exact zcj vs _ g (o + 1) _ e fr this
theorem zbx:∀ (c:List Value) (w:World) (g o b:Nat),b ≠ g -> (setCells w g o c).heap[b]? = w.heap[b]?
 | [],_,_,_,_,_ => rfl
 | v :: vs,w,g,o,b,h => by
  simp only [setCells]; rw [zbx vs _ g (o + 1) b h,Below.heap_setCell _ _ _ _ (by simpa using h)]
theorem zbn {B:Nat} {a:World}:∀ (c:List Value) {w:World} {g:Nat} (o:Nat),Below B a w -> B <= g -> Below B a (setCells w g o c)
 | [],_,_,_,h,_ => h
 | v :: vs,w,g,o,h,hg => by simp only [setCells]; exact zbn vs (o + 1) (h.setCell hg v) hg
theorem Part.there {B:Nat} {w:World} {g n len:Nat} {ds:List D} (h:Part B w g n len ds) (j:Nat) (hj:j < n * len):(∃ v,w.cell? ⟨g,j,none⟩ = some v) /\ w.frozen? ⟨g,j,none⟩ = false:=by
 obtain ⟨cur,e,fp,h1,h2,_⟩:=h;refine ⟨⟨cur[j]'(by omega),by rw [zae h1]; simp⟩,?_⟩;simp [World.frozen?,h1]
theorem Part.put {B:Nat} {w w1:World} {g n len:Nat} {ds:List D} {d:D} {c:List Value} (h:Part B w g n len ds) (hb:Below w.heap.size w w1) (k:Own w.heap.size w1 d c) (hd:D.width d = n) (hlt:ds.length < len) (hB:B <= w.heap.size) :
  Part B (setCells w1 g (n * ds.length) c) g n len (ds ++ [d]):=by
 obtain ⟨cur,e,fp,h1,h2,h3,h4,h5,h6,h7⟩:=h;obtain ⟨f2,n2,b2,t2⟩:=k;have hg:=zao h1;have hcl:c.length = n:=by rw [t2.len,hd]
 have h1':w1.heap[g]? = some (.cells cur.toList.toArray e (0,0)):=by rw [hb.block g hg]; simpa using h1
 have hlen:n * ds.length + n <= cur.toList.length:=by
  simp only [Array.length_toList,h2,<- Nat.mul_succ]; exact Nat.mul_le_mul_left n hlt
 refine ⟨(setL cur.toList (n * ds.length) c).toArray,e,fp ++ f2,zcj c w1 g _ _ e _ h1',by simp [zdf,h2],h3,?_,?_,?_,?_⟩
 ·rw [nodup_append]
  refine ⟨h4,n2,fun a ha b hb' => ?_⟩
  have:=h7.lt a ha; have:=b2 b hb'; omega
 ·intro b hx; rcases mem_append.1 hx with hx | hx
  ·exact h5 b hx
  ·have:=b2 b hx; exact ⟨Nat.le_trans hB this,by omega⟩
 ·intro x hx; rcases mem_append.1 hx with hx | hx
  ·exact h6 x hx
  ·simp at hx; subst hx; exact hd
 ·have e1:(setL cur.toList (n * ds.length) c).toArray.toList.take (n * (ds ++ [d]).length) = cur.toList.take (n * ds.length) ++ c:=by
   simp only [length_append,length_singleton,Nat.mul_succ]
   have:=zeO c cur.toList (n * ds.length) (by omega)
   rw [hcl] at this; exact this
  rw [e1];refine TreeCs.append (h7.frame fun b hx => ?_) (TreeCs.one (t2.frame fun b hx => ?_))
  ·rw [zbx _ _ _ _ _ (h5 b hx).2,hb.block b (h7.lt b hx)]
  ·rw [zbx _ _ _ _ _ (by have:=b2 b hx; omega)]
end
section
inductive PC where
 | v (x:Value)
 | sl (t:Nat) (es:List (List PC))
 | bld (p:Nat) (T:TypeId) (t:Nat) (U:TypeId)
 | anyp
 | row (p len cap:Nat)
inductive PV where
 | d (x:PC)
 | ag (cs:List PC)
 | tup (vs:List PV)
 | ref (p off:Nat)
 | pt (cs:List PC)
 | fn (f:Nat) (cap:List PV)
 | raw (v:Value)
instance:Inhabited PC:=⟨.v (.bool false)⟩
instance:Inhabited PV:=⟨.tup []⟩
structure Cx where
 F:Nat -> Nat -> Prop
 nb:Nat
 bx:Nat -> Nat
 nt:Nat
 tk:Nat -> Option Nat
 cp:Nat -> Nat
 tl:Nat -> Nat
 tn:Nat -> Nat
 old:Nat -> Prop
structure RowAt (C:Cx) (w:World) (b o n:Nat) (es:List (List PC)) (u:Nat -> Nat -> Value):Prop where
 pos:0 < n
 wid:∀ e ∈ es,e.length = n
 cell:∀ i j,i < es.length -> j < n -> w.cell? ⟨b,o + (n * i + j),none⟩ = some (u i j)
 fix:∀ i j,i < es.length -> j < n -> C.F b (o + (n * i + j))
inductive RpC (C:Cx) (w:World):PC -> Value -> Prop where
 | v (x:Value) (h:x.oneCell' = true):RpC C w (.v x) x
 | bld (p:Nat) (T:TypeId) (t:Nat) (U:TypeId) (v:Value) (h:p < C.nb) (cs:Array Value) (fz:Nat × Nat) (ht:w.heap[C.bx p]? = some (.cells cs T fz)) (hv:v = .pointer none \/ v = .pointer (some ⟨C.bx p,0,none⟩)) (hU:t = 1 \/ 2 <= t /\ t < C.nt /\ ∀ b,C.tk t = some b -> ∃ cs fz,w.heap[b]? = some (.cells cs U fz)):RpC C w (.bld p T t U) v
 | anyp (v:Value) (h:v.oneCell' = true):RpC C w .anyp v
 | row (p len cap:Nat) (h:p < C.nb) (hl:len <= cap) (hc:cap <= maxLen):RpC C w (.row p len cap) (.slice (some ⟨C.bx p,0,none⟩) len cap)
 | emp (a:Option Addr) (c:Nat):RpC C w (.sl 0 []) (.slice a 0 c)
 | nil:RpC C w (.sl 1 []) (.slice none 0 0)
 | nilo (t:Nat) (h2:2 <= t) (ht:t < C.nt) (hb:C.tk t = none):RpC C w (.sl t []) (.slice none 0 0)
 | rd (es:List (List PC)) (b o n c:Nat) (u:Nat -> Nat -> Value) (hl:es.length <= c) (hc:c <= maxLen) (hr:RowAt C w b o n es u)
   (h:∀ i j e y,es[i]? = some e -> e[j]? = some y -> RpC C w y (u i j)):RpC C w (.sl 0 es) (.slice (some ⟨b,o,none⟩) es.length c)
 | own (t:Nat) (es:List (List PC)) (b:Nat) (u:Nat -> Nat -> Value) (h2:2 <= t) (ht:t < C.nt) (hb:C.tk t = some b) (hlen:es.length = C.tl t) (hl:es.length <= C.cp t) (hc:C.cp t <= maxLen)
   (hr:RowAt C w b 0 (C.tn t) es u) (h:∀ i j e y,es[i]? = some e -> e[j]? = some y -> RpC C w y (u i j)):RpC C w (.sl t es) (.slice (some ⟨b,0,none⟩) es.length (C.cp t))
def RpL (C:Cx) (w:World) (cs:List PC) (vs:List Value):Prop:=vs.length = cs.length /\ ∀ (j:Nat) (c:PC) (y:Value),cs[j]? = some c -> vs[j]? = some y -> RpC C w c y
inductive RpV (C:Cx) (w:World):PV -> Value -> Prop where
 | d (x:PC) (v:Value) (h:RpC C w x v):RpV C w (.d x) v
 | ag (cs:List PC) (vs:List Value) (h:RpL C w cs vs):RpV C w (.ag cs) (.agg vs.toArray)
 | tup (xs:List PV) (vs:List Value) (hl:vs.length = xs.length) (h:∀ (j:Nat) (x:PV) (y:Value),xs[j]? = some x -> vs[j]? = some y -> RpV C w x y):RpV C w (.tup xs) (.tuple vs.toArray)
 | ref (p o:Nat) (h:p < C.nb):RpV C w (.ref p o) (.pointer (some ⟨C.bx p,o,none⟩))
 | pt (cs:List PC) (b o:Nat) (u:Nat -> Value) (hc:∀ j,j < cs.length -> w.cell? ⟨b,o + j,none⟩ = some (u j)) (hf:∀ j,j < cs.length -> C.F b (o + j)) (h:∀ (j:Nat) (c:PC),cs[j]? = some c -> RpC C w c (u j)):RpV C w (.pt cs) (.pointer (some ⟨b,o,none⟩))
 | fn (f:Nat) (xs:List PV) (vs:List Value) (hl:vs.length = xs.length) (h:∀ (j:Nat) (x:PV) (y:Value),xs[j]? = some x -> vs[j]? = some y -> RpV C w x y):RpV C w (.fn f xs) (.func (.func f) #[] vs.toArray)
 | raw (v:Value):RpV C w (.raw v) v
structure CxLe (C C':Cx):Prop where
 F:∀ b o,C.F b o -> C'.F b o
 nb:C.nb <= C'.nb
 bx:∀ p,p < C.nb -> C'.bx p = C.bx p
 nt:C.nt <= C'.nt
 tk:∀ t,t < C.nt -> C'.tk t = C.tk t /\ C'.cp t = C.cp t /\ C'.tl t = C.tl t /\ C'.tn t = C.tn t
theorem CxLe.refl (C:Cx):CxLe C C:=⟨fun _ _ h => h,lR,fun _ _ => rfl,lR,fun _ _ => ⟨rfl,rfl,rfl,rfl⟩⟩
theorem CxLe.trans {A B C:Cx} (h:CxLe A B) (k:CxLe B C):CxLe A C :=
 ⟨fun b o x => k.F b o (h.F b o x),Nat.le_trans h.nb k.nb,fun p hp => (k.bx p (Nat.lt_of_lt_of_le hp h.nb)).trans (h.bx p hp),Nat.le_trans h.nt k.nt,fun t ht => by
  obtain ⟨a1,a2,a3,a4⟩:=h.tk t ht;obtain ⟨b1,b2,b3,b4⟩:=k.tk t (Nat.lt_of_lt_of_le ht h.nt);exact ⟨b1.trans a1,b2.trans a2,b3.trans a3,b4.trans a4⟩⟩
def Fix (C:Cx) (w w':World):Prop:=(∀ b o,C.F b o -> w'.cell? ⟨b,o,none⟩ = w.cell? ⟨b,o,none⟩) /\ ∀ (k:Nat) (T:TypeId) (cs:Array Value) (fz:Nat × Nat),w.heap[k]? = some (.cells cs T fz) -> ∃ cs' fz',w'.heap[k]? = some (.cells cs' T fz')
theorem Fix.refl (C:Cx) (w:World):Fix C w w:=⟨fun _ _ _ => rfl,fun _ _ cs fz h => ⟨cs,fz,h⟩⟩
theorem Fix.of {C:Cx} {w w':World} (h:∀ b o,C.F b o -> w'.cell? ⟨b,o,none⟩ = w.cell? ⟨b,o,none⟩) (k:∀ k,k < w.heap.size -> w'.heap[k]? = w.heap[k]?):Fix C w w' :=
 ⟨h,fun q T cs fz hh => ⟨cs,fz,by rw [k q (by rcases Nat.lt_or_ge q w.heap.size with h' | h'; exact h'; simp [Array.getElem?_eq_none h'] at hh)]; exact hh⟩⟩
theorem RowAt.frame {C C':Cx} {w w':World} {b o n:Nat} {es:List (List PC)} {u:Nat -> Nat -> Value} (h:RowAt C w b o n es u) (hC:CxLe C C') (hf:Fix C w w'):RowAt C' w' b o n es u :=
 ⟨h.pos,h.wid,fun i j hi hj => (hf.1 _ _ (h.fix i j hi hj)).trans (h.cell i j hi hj),fun i j hi hj => hC.F _ _ (h.fix i j hi hj)⟩
theorem RpC.frame {C C':Cx} {w w':World} (hC:CxLe C C') (hf:Fix C w w') {c:PC} {v:Value} (h:RpC C w c v):RpC C' w' c v:=by
 induction h with
 | v x h => exact .v x h
 | bld p T t U v h cs fz ht hv hU =>
  obtain ⟨cs',fz',ht'⟩:=hf.2 _ T cs fz ht;rw [<- hC.bx p h] at ht' hv;refine .bld p T t U v (Nat.lt_of_lt_of_le h hC.nb) cs' fz' ht' hv (hU.imp id fun ⟨h2,hlt,hb⟩ => ⟨h2,Nat.lt_of_lt_of_le hlt hC.nt,fun b hb' => ?_⟩);obtain ⟨cs2,fz2,h3⟩:=hb b ((hC.tk t hlt).1.symm.trans hb')
  exact hf.2 b U cs2 fz2 h3
 | anyp a h => exact .anyp a h
 | row p l c h hl hc => rw [<- hC.bx p h]; exact .row p l c (Nat.lt_of_lt_of_le h hC.nb) hl hc
 | emp a c => exact .emp a c
 | nil => exact .nil
 | nilo t h2 ht hb => exact .nilo t h2 (Nat.lt_of_lt_of_le ht hC.nt) ((hC.tk t ht).1.trans hb)
 | rd es b o n c u hl hc hr _ ih => exact .rd es b o n c u hl hc (hr.frame hC hf) ih
 | own t es b u h2 ht hb hlen hl hc hr _ ih =>
  obtain ⟨e1,e2,e3,e4⟩:=hC.tk t ht;rw [<- e2];exact .own t es b u h2 (Nat.lt_of_lt_of_le ht hC.nt) (e1.trans hb) (by rw [e3]; exact hlen) (by rw [e2]; exact hl) (by rw [e2]; exact hc) (by rw [e4]; exact hr.frame hC hf) ih
theorem RpL.frame {C C':Cx} {w w':World} (hC:CxLe C C') (hf:Fix C w w') {cs:List PC} {vs:List Value} (h:RpL C w cs vs):RpL C' w' cs vs:=⟨h.1,fun j c y h1 h2 => (h.2 j c y h1 h2).frame hC hf⟩
theorem RpV.frame {C C':Cx} {w w':World} (hC:CxLe C C') (hf:Fix C w w') {c:PV} {v:Value} (h:RpV C w c v):RpV C' w' c v:=by
 induction h with
 | d x v h => exact .d x v (h.frame hC hf)
 | ag cs vs h => exact .ag cs vs (h.frame hC hf)
 | tup xs vs hl _ ih => exact .tup xs vs hl ih
 | ref p o h => rw [<- hC.bx p h]; exact .ref p o (Nat.lt_of_lt_of_le h hC.nb)
 | pt cs b o u hc hF h => exact .pt cs b o u (fun j hj => (hf.1 _ _ (hF j hj)).trans (hc j hj)) (fun j hj => hC.F _ _ (hF j hj)) (fun j c hj => (h j c hj).frame hC hf)
 | fn f xs vs hl _ ih => exact .fn f xs vs hl ih
 | raw v => exact .raw v
theorem RpC.one {C:Cx} {w:World} {c:PC} {v:Value} (h:RpC C w c v):v.oneCell' = true:=by
 cases h with
 | bld p T t U v h cs fz ht hv hU => rcases hv with rfl | rfl <;> rfl
 | _ => first | assumption | rfl
theorem RpL.one {C:Cx} {w:World} {cs:List PC} {vs:List Value} (h:RpL C w cs vs):∀ v ∈ vs,v.oneCell' = true:=by
 intro v hv;obtain ⟨j,hj,rfl⟩:=mem_iff_getElem.1 hv;exact (h.2 j (cs[j]'(by rw [<- h.1]; exact hj)) vs[j] (by simp) (by simp)).one
theorem RpL.nil {C:Cx} {w:World}:RpL C w [] []:=⟨rfl,fun j c y h _ => by simp at h⟩
theorem RpL.cons {C:Cx} {w:World} {c:PC} {v:Value} {cs:List PC} {vs:List Value} (h:RpC C w c v) (k:RpL C w cs vs):RpL C w (c :: cs) (v :: vs) :=
 ⟨by simp [k.1],fun j c' y h1 h2 => by
  match j with
  | 0 => simp at h1 h2; subst h1; subst h2; exact h
  | j + 1 => simp at h1 h2; exact k.2 j c' y h1 h2⟩
theorem RpL.one1 {C:Cx} {w:World} {c:PC} {v:Value} (h:RpC C w c v):RpL C w [c] [v]:=.cons h .nil
theorem RpL.inv1 {C:Cx} {w:World} {c:PC} {cs:List PC} {vs:List Value} (h:RpL C w (c :: cs) vs):∃ v vr,vs = v :: vr /\ RpC C w c v /\ RpL C w cs vr:=by
 match vs,h with
 | [],h => simp [RpL] at h
 | v :: vr,h => exact ⟨v,vr,rfl,h.2 0 c v rfl rfl,by have:=h.1; simpa using this,fun j c' y h1 h2 => h.2 (j + 1) c' y (by simpa using h1) (by simpa using h2)⟩
theorem RpL.inv0 {C:Cx} {w:World} {vs:List Value} (h:RpL C w [] vs):vs = []:=eq_nil_of_length_eq_zero h.1
theorem RpL.slice {C:Cx} {w:World} {cs:List PC} {vs:List Value} (h:RpL C w cs vs) (o n:Nat):RpL C w ((cs.drop o).take n) ((vs.drop o).take n) :=
 ⟨by simp [h.1],fun j c y h1 h2 => by
  rw [getElem?_take] at h1 h2
  split at h1
  ·rw [getElem?_drop] at h1; rw [if_pos ‹_›,getElem?_drop] at h2; exact h.2 _ c y h1 h2
  ·cases h1⟩
theorem RpL.append {C:Cx} {w:World} {cs ds:List PC} {vs us:List Value} (h:RpL C w cs vs) (k:RpL C w ds us):RpL C w (cs ++ ds) (vs ++ us) :=
 ⟨by simp [h.1,k.1],fun j c y h1 h2 => by
  by_cases hj:j < cs.length
  ·rw [getElem?_append_left hj] at h1; rw [getElem?_append_left (by rw [h.1]; exact hj)] at h2; exact h.2 j c y h1 h2
  ·rw [getElem?_append_right (by omega)] at h1; rw [getElem?_append_right (by rw [h.1]; omega),h.1] at h2; exact k.2 _ c y h1 h2⟩
structure Inv (NG:Nat) (T:World -> Prop) (C:Cx) (bx:List (List PC)) (live:Nat -> Prop) (w:World):Prop where
 nb:C.nb = bx.length
 box:∀ p cs,bx[p]? = some cs -> ∃ vs e,w.heap[C.bx p]? = some (.cells (toArray vs) e (0,0)) /\ RpL C w cs vs
 boxF:∀ p,p < bx.length -> ∀ o,¬ C.F (C.bx p) o
 boxG:∀ p,p < bx.length -> NG <= C.bx p
 inj:∀ p q,p < bx.length -> q < bx.length -> C.bx p = C.bx q -> p = q
 tok:∀ t,live t -> 2 <= t /\ t < C.nt /\ (C.tk t = none /\ C.tl t = 0 \/ ∃ b cur e,C.tk t = some b /\ NG <= b /\ w.heap[b]? = some (.cells cur e (0,0)) /\ cur.size = C.cp t * C.tn t /\ C.tl t <= C.cp t /\ C.cp t <= maxLen /\ 0 < C.tn t /\ (C.tl t = 0 -> C.cp t = 0) /\
  (∀ o,C.F b o -> o < C.tl t * C.tn t) /\ ∀ p,p < bx.length -> C.bx p ≠ b)
 tinj:∀ t s b,live t -> live s -> C.tk t = some b -> C.tk s = some b -> t = s
 fin:∀ b o,C.F b o -> b < w.heap.size
 ng:NG <= w.heap.size
 t:T w
structure Ext (C0:Cx) (w0:World) (C:Cx) (nb:Nat) (live:Nat -> Prop) (w:World):Prop where
 os:w.os = w0.os
 tape:w.tape = w0.tape
 output:w.output = w0.output
 size:w0.heap.size <= w.heap.size
 F:∀ b o,C0.F b o -> C.F b o
 fix:Fix C0 w0 w
 block:∀ k,k < w0.heap.size -> (∀ p,p < C0.nb -> C0.bx p ≠ k) -> (∀ t,C0.old t -> C0.tk t ≠ some k) -> w.heap[k]? = w0.heap[k]?
 bx:C0.nb <= C.nb /\ ∀ p,p < C0.nb -> C.bx p = C0.bx p
 newF:∀ b o,C.F b o -> C0.F b o \/ w0.heap.size <= b \/ ∃ s,C0.old s /\ C0.tk s = some b
 newT:∀ t b,live t -> C.tk t = some b -> w0.heap.size <= b \/ ∃ s,C0.old s /\ C0.tk s = some b
 newB:∀ p,C0.nb <= p -> p < nb -> w0.heap.size <= C.bx p
 tk:C0.nt <= C.nt /\ ∀ t,t < C0.nt -> C.tk t = C0.tk t /\ C.cp t = C0.cp t /\ C.tl t = C0.tl t /\ C.tn t = C0.tn t
end
section
inductive X where
 | t (n:Nat)
 | c (v:Value)
 | f (n:Nat)
inductive MO where
 | mv (x:X)
 | pick (c a b:X)
 | box (x:X)
 | zero (z:List Value)
 | zbld (T U:TypeId)
 | build (z:List Value) (ps:List (Nat × Nat × X))
 | lit (n:Nat) (xs:List X)
 | litq (n:Nat) (xs:List X)
 | load (ag:Bool) (n:Nat) (x:X)
 | store (n:Nat) (a x:X)
 | fld (off:Nat) (x:X)
 | field (ag:Bool) (off n:Nat) (x:X)
 | ix (n:Nat) (x i:X)
 | ixs (x i:X)
 | bin (op:BinOp) (b:Bool) (x y:X)
 | not (x:X)
 | neg (x:X)
 | conv (k:IntKind) (x:X)
 | b2s (x:X)
 | len (x:X)
 | lens (x:X)
 | minmax (mx:Bool) (x y:X)
 | app (n:Nat) (s x:X)
 | slc (n:Nat) (x:X) (lo hi:Option X)
 | slcs (x:X) (lo hi:Option X)
 | ext (x:X) (i:Nat)
 | call (f:Nat) (xs:List X)
 | callv (x:X) (xs:List X)
 | mkfn (f:Nat) (xs:List X)
 | nilc (x:X)
structure MOpr where
 d:Option Nat
 o:MO
 g:Option (Nat × Bool)
 c:List X:=[]
structure St where
 tm:Nat -> PV
 bx:List (List PC)
 nt:Nat
 live:List Nat
def ofC:Value -> PC
 | .slice none 0 0 => .sl 1 []
 | x => .v x
def ofV:Value -> PV
 | .agg cs => .ag (cs.toList.map ofC)
 | .tuple _ => .tup []
 | .slice none 0 0 => .d (.sl 1 [])
 | x => .d (.v x)
def okC:Value -> Bool
 | .agg cs => cs.toList.all (·.oneCell')
 | .tuple vs => vs.isEmpty
 | _ => true
def ev (tm:Nat -> PV):X -> PV
 | .t n => tm n
 | .c v => ofV v
 | .f n => .fn n []
def pcells:PV -> Option (List PC)
 | .d c => some [c]
 | .ag cs => some cs
 | _ => none
def ldv:Bool -> List PC -> Option PV
 | true,l => some (.ag l)
 | false,[c] => some (.d c)
 | false,_ => none
def spl (z:List PC) (o:Nat) (cs:List PC):List PC:=z.take o ++ cs ++ z.drop (o + cs.length)
def fillP (e:X -> PV):List PC -> List (Nat × Nat × X) -> Option (List PC)
 | z,[] => some z
 | z,(o,n,x) :: r =>
  match pcells (e x) with
  | some cs => if cs.length = n /\ o + n <= z.length then fillP e (spl z o cs) r else none
  | none => none
def binV (op:BinOp) (isb:Bool):Value -> Value -> Option Value
 | .int k a,.int k' b =>
  if k = k' then
   match op with
   | .add => some (.int k (k.wrap (a + b)))
   | .sub => some (.int k (k.wrap (a - b)))
   | .mul => some (.int k (k.wrap (a * b)))
   | .quo => if b = 0 then none else some (.int k (k.wrap (a.tdiv b)))
   | .rem => if b = 0 then none else some (.int k (a.tmod b))
   | .and => some (.int k (k.wrap (BitVec.ofInt k.bits a &&& BitVec.ofInt k.bits b).toNat))
   | .or => some (.int k (k.wrap (BitVec.ofInt k.bits a ||| BitVec.ofInt k.bits b).toNat))
   | .xor => some (.int k (k.wrap (BitVec.ofInt k.bits a ^^^ BitVec.ofInt k.bits b).toNat))
   | .eql => some (.bool (a == b))
   | .neq => some (.bool (a != b))
   | .lss => some (.bool (decide (a < b)))
   | .leq => some (.bool (decide (a <= b)))
   | .gtr => some (.bool (decide (a > b)))
   | .geq => some (.bool (decide (a ≥ b)))
   | .shl => if b < 0 then none else some (.int k (k.wrap (a * 2 ^ (min b.toNat k.bits))))
   | .shr => if b < 0 then none else some (.int k (a.fdiv (2 ^ (min b.toNat k.bits))))
   | _ => none
  else
   match op with
   | .shl => if b < 0 then none else some (.int k (k.wrap (a * 2 ^ (min b.toNat k.bits))))
   | .shr => if b < 0 then none else some (.int k (a.fdiv (2 ^ (min b.toNat k.bits))))
   | _ => none
 | .string a,.string b =>
  match op with
  | .add => if a.size + b.size <= 9223372036854775807 then some (.string (a ++ b)) else none
  | .eql => some (.bool (a.toList == b.toList))
  | .neq => some (.bool (!(a.toList == b.toList)))
  | .lss => some (.bool (Op.bytesLess a.toList b.toList))
  | .leq => some (.bool (Op.bytesLess a.toList b.toList || a.toList == b.toList))
  | .gtr => some (.bool (!(Op.bytesLess a.toList b.toList || a.toList == b.toList)))
  | .geq => some (.bool (!(Op.bytesLess a.toList b.toList)))
  | _ => none
 | .bool a,.bool b =>
  if isb then
   match op with
   | .eql => some (.bool (a == b))
   | .neq => some (.bool (!(a == b)))
   | _ => none
  else none
 | _,_ => none
def byteL:List (List PC) -> Option (List UInt8)
 | [] => some []
 | [.v (.int .u8 n)] :: r => (byteL r).map (UInt8.ofNat n.toNat :: ·)
 | _ :: _ => none
def bound (e:X -> PV) (dft:Nat):Option X -> Option Nat
 | none => some dft
 | some x =>
  match e x with
  | .d (.v (.int _ i)) => if 0 <= i then some i.toNat else none
  | _ => none
def litP (e:X -> PV) (n:Nat):List X -> Option (List (List PC))
 | [] => some []
 | x :: r =>
  match pcells (e x),litP e n r with
  | some cs,some l => if cs.length = n then some (cs :: l) else none
  | _,_ => none
def qf (e:X -> PV) (bx:List (List PC)):MO -> Option PV
 | .mv x => some (e x)
 | .pick c a b =>
  match e c with
  | .d (.v (.bool t)) => some (if t then e a else e b)
  | _ => none
 | .build z ps => (fillP e (z.map ofC) ps).map .ag
 | .load ag n x =>
  match e x with
  | .ref p o =>
   match bx[p]? with
   | some cs => if o + n <= cs.length then ldv ag ((cs.drop o).take n) else none
   | none => none
  | .pt cs => if n <= cs.length then ldv ag (cs.take n) else none
  | _ => none
 | .fld off x =>
  match e x with
  | .ref p o => some (.ref p (o + off))
  | .pt cs => some (.pt (cs.drop off))
  | _ => none
 | .field ag off n x =>
  match e x with
  | .ag cs => if off + n <= cs.length then ldv ag ((cs.drop off).take n) else none
  | _ => none
 | .ix n x i =>
  match e x,e i with
  | .d (.sl _ es),.d (.v (.int _ j)) =>
   if 0 <= j then
    match es[j.toNat]? with
    | some c => if c.length = n then some (.pt c) else none
    | none => none
   else none
  | .d (.row p len _),.d (.v (.int _ j)) => if 0 <= j /\ j.toNat < len then some (.ref p (n * j.toNat)) else none
  | _,_ => none
 | .ixs x i =>
  match e x,e i with
  | .d (.v (.string s)),.d (.v (.int _ j)) =>
   if 0 <= j then (s.data.toList[j.toNat]?).map fun b => .d (.v (.int .u8 b.toNat)) else none
  | _,_ => none
 | .bin op b x y =>
  match e x,e y with
  | .d (.v a),.d (.v c) => (binV op b a c).map fun z => .d (.v z)
  | _,_ => none
 | .not x =>
  match e x with
  | .d (.v (.bool b)) => some (.d (.v (.bool (!b))))
  | _ => none
 | .neg x =>
  match e x with
  | .d (.v (.int k n)) => some (.d (.v (.int k (k.wrap (0 - n)))))
  | _ => none
 | .conv k x =>
  match e x with
  | .d (.v (.int _ n)) => some (.d (.v (.int k (k.wrap n))))
  | _ => none
 | .b2s x =>
  match e x with
  | .d (.sl _ es) => (byteL es).map fun l => .d (.v (.string ⟨l.toArray⟩))
  | _ => none
 | .len x =>
  match e x with
  | .d (.sl _ es) => some (.d (.v (.int .i64 es.length)))
  | .d (.row _ len _) => some (.d (.v (.int .i64 len)))
  | _ => none
 | .lens x =>
  match e x with
  | .d (.v (.string s)) => some (.d (.v (.int .i64 s.data.toList.length)))
  | _ => none
 | .minmax mx x y =>
  match e x,e y with
  | .d (.v (.int k a)),.d (.v (.int _ b)) => some (.d (.v (.int k (if mx then (if b > a then b else a) else (if b < a then b else a)))))
  | _,_ => none
 | .slc n x lo hi =>
  match e x with
  | .d (.sl _ es) =>
   match bound e 0 lo,bound e es.length hi with
   | some l,some h => if l <= h /\ h <= es.length /\ ∀ d ∈ es,d.length = n then some (.d (.sl 0 ((es.drop l).take (h - l)))) else none
   | _,_ => none
  | .d (.row p len cap) =>
   match bound e 0 lo,bound e len hi with
   | some 0,some h => if h <= len then some (.d (.row p h cap)) else none
   | _,_ => none
  | _ => none
 | .slcs x lo hi =>
  match e x with
  | .d (.v (.string s)) =>
   match bound e 0 lo,bound e s.data.toList.length hi with
   | some l,some h => if l <= h /\ h <= s.data.toList.length then some (.d (.v (.string ⟨((s.data.toList.drop l).take (h - l)).toArray⟩))) else none
   | _,_ => none
  | _ => none
 | .ext x i =>
  match e x with
  | .tup vs => vs[i]?
  | _ => none
 | .litq n xs => (litP e n xs).map fun es => .d (.sl 0 es)
 | .mkfn f xs => some (.fn f (xs.map e))
 | .nilc x =>
  match e x with
  | .ref p o => some (.ref p o)
  | .pt cs => some (.pt cs)
  | .fn f cs => some (.fn f cs)
  | _ => none
 | _ => none
def lf (e:X -> PV) (s:St):MO -> Option (PV × St)
 | .box x => (pcells (e x)).map fun cs => (.ref s.bx.length 0,{ s with bx:=s.bx ++ [cs] })
 | .zero z => some (.ref s.bx.length 0,{ s with bx:=s.bx ++ [z.map ofC] })
 | .zbld T U => some (.ref s.bx.length 0,{ s with bx:=s.bx ++ [[.bld s.bx.length T 1 U,.sl 1 []]] })
 | .lit n xs => (litP e n xs).map fun es => (.d (.sl s.nt es),{ s with nt:=s.nt + 1,live:=s.nt :: s.live })
 | .app n x y =>
  match e x,e y with
  | .d (.sl t es),.d (.sl _ ds) =>
   if (t = 1 \/ t ∈ s.live) /\ es.length + ds.length <= 4294967296 /\ (∀ d ∈ ds,d.length = n) /\ (∀ d ∈ es,d.length = n) then
    some (.d (.sl s.nt (es ++ ds)),{ s with nt:=s.nt + 1,live:=s.nt :: s.live.filter (· != t) })
   else none
  | _,_ => none
 | .store n a x =>
  match e a,pcells (e x) with
  | .ref p o,some cs =>
   match s.bx[p]? with
   | some z => if cs.length = n /\ o + n <= z.length then some (.tup [],{ s with bx:=s.bx.set p (spl z o cs) }) else none
   | none => none
  | _,_ => none
 | _ => none
def St.put (s:St) (d:Option Nat) (v:PV):St :=
 match d with
 | some d => { s with tm:=fun t => if t = d then v else s.tm t }
 | none => s
/-! ### From the program's operations -/
def trX:Operand -> Option X
 | .tmp t => some (.t t)
 | .const v => if okC v then some (.c v) else none
 | .func f => some (.f f)
 | .global _ => none
def trXs:List Operand -> Option (List X)
 | [] => some []
 | x :: r => match trX x,trXs r with
  | some y,some l => some (y :: l)
  | _,_ => none
def trXo:Option Operand -> Option (Option X)
 | none => some none
 | some x => (trX x).map some
def isRowT (P:Program) (t:TypeId):Option Bool :=
 match P.underlying t with
 | some (.struct _) => some true
 | some (.array _ _) => some true
 | some _ => some false
 | none => none
def sizeT (P:Program) (t:TypeId):Option Nat:=(P.info? t).map (·.size)
def elemT (P:Program) (t:TypeId):Option TypeId :=
 match P.underlying t with
 | some (.slice e) => some e
 | _ => none
def isBoolD:TypeDesc -> Bool
 | .bool => true
 | _ => false
def isStrT (P:Program) (t:TypeId):Bool :=
 match P.underlying t with
 | some .string => true
 | _ => false
def trParts (P:Program) (fs:Array Field):List (Nat × Operand) -> Option (List (Nat × Nat × X))
 | [] => some []
 | (i,x) :: r =>
  match fs[i]?,trX x,trParts P fs r with
  | some f,some y,some l => (sizeT P f.type).map fun n => (f.offset,n,y) :: l
  | _,_,_ => none
def trLit:Nat -> List (Nat × Operand) -> Option (List X)
 | _,[] => some []
 | k,(i,x) :: r =>
  match trX x,trLit (k + 1) r with
  | some y,some l => if i = k then some (y :: l) else none
  | _,_ => none
def okElem (P:Program) (e:TypeId) (n:Nat):Bool :=
 match P.info? e with
 | some i =>
  match i.zero with
  | some z => decide (i.size = n) && decide (i.bytes <= 32768) && decide (z.cells.size = n) && decide (0 < n) && z.cells.toList.all (·.oneCell')
  | none => false
 | none => false
def bldT (P:Program) (e:TypeId) (cs:List Value):Option TypeId :=
 match P.underlying e,cs with
 | some (.struct fs),[.pointer none,.slice none 0 0] =>
  match fs[1]? with
  | some f => elemT P f.type
  | none => none
 | _,_ => none
def trOp (P:Program):Op -> Option MO
 | .move x | .assign x => (trX x).map .mv
 | .pick c a b =>
  match trX c,trX a,trX b with
  | some c,some a,some b => some (.pick c a b)
  | _,_,_ => none
 | .alloc e =>
  match (P.info? e).bind (·.zero) with
  | some z =>
   if z.cells.toList.all (·.oneCell') then
    match bldT P e z.cells.toList with
    | some U => some (.zbld e U)
    | none => some (.zero z.cells.toList)
   else none
  | none => none
 | .box _ x => (trX x).map .box
 | .build t ps =>
  match (P.info? t).bind (·.zero),P.underlying t with
  | some z,some (.struct fs) => if z.cells.toList.all (·.oneCell') && fs.toList.all (fun f => (P.info? f.type).isSome) then (trParts P fs ps.toList).map (.build z.cells.toList) else none
  | _,_ => none
 | .buildSlice t len ps =>
  match elemT P t with
  | some e =>
   match sizeT P e,trLit 0 ps.toList with
   | some n,some xs => if okElem P e n && decide (xs.length = len) && decide (len * n <= 2 ^ 24) then some (.lit n xs) else none
   | _,_ => none
  | none => none
 | .load t x =>
  match isRowT P t,sizeT P t,trX x with
  | some ag,some n,some x => if ag || decide (n = 1) then some (.load ag n x) else none
  | _,_,_ => none
 | .store t a x =>
  match sizeT P t,trX a,trX x with
  | some n,some a,some x => some (.store n a x)
  | _,_,_ => none
 | .fieldAddr s x f =>
  match P.underlying s,trX x with
  | some (.struct fs),some x =>
   match fs[f]? with
   | some f => match sizeT P f.type with
    | some n => if 0 < n then some (.fld f.offset x) else none
    | none => none
   | none => none
  | _,_ => none
 | .field s x f =>
  match P.underlying s,trX x with
  | some (.struct fs),some x =>
   match fs[f]? with
   | some f =>
    match isRowT P f.type,sizeT P f.type with
    | some ag,some n => if ag || decide (n = 1) then some (.field ag f.offset n x) else none
    | _,_ => none
   | none => none
  | _,_ => none
 | .indexAddr t x i =>
  match elemT P t,trX x,trX i with
  | some e,some x,some i =>
   match sizeT P e with
   | some n => if 0 < n then some (.ix n x i) else none
   | none => none
  | _,_,_ => none
 | .index t x i =>
  if isStrT P t then
   match trX x,trX i with
   | some x,some i => some (.ixs x i)
   | _,_ => none
  else none
 | .binOp op t x y _ =>
  match trX x,trX y,P.underlying t with
  | some x,some y,some d => some (.bin op (isBoolD d) x y)
  | _,_,_ => none
 | .unOp .not _ x => (trX x).map .not
 | .unOp .neg _ x => (trX x).map .neg
 | .convert src dst x =>
  match P.underlying src,P.underlying dst,trX x with
  | some (.int _),some (.int k),some x => some (.conv k x)
  | some (.slice e),some .string,some x =>
   match P.underlying e with
   | some (.int .u8) => some (.b2s x)
   | _ => none
  | _,_,_ => none
 | .slice t x lo hi none =>
  match trX x,trXo lo,trXo hi with
  | some x,some lo,some hi =>
   if isStrT P t then some (.slcs x lo hi)
   else match elemT P t with
    | some e => (sizeT P e).map fun n => .slc n x lo hi
    | none => none
  | _,_,_ => none
 | .extract x i => (trX x).map fun x => .ext x i
 | .makeFunc (.func f) first captured => if first.isEmpty then (trXs captured.toList).map (.mkfn f) else none
 | .nilCheck x => (trX x).map .nilc
 | .call c =>
  match c.callee with
  | .value (.func f) => (trXs c.args.toList).map (.call f)
  | .value (.tmp t) => (trXs c.args.toList).map (.callv (.t t))
  | .builtin .len =>
   match c.args.toList,c.argTypes.toList with
   | [x],[t] => if isStrT P t then (trX x).map .lens else if (elemT P t).isSome then (trX x).map .len else none
   | _,_ => none
  | .builtin .min =>
   match c.args.toList with
   | [x,y] =>
    match trX x,trX y with
    | some x,some y => some (.minmax false x y)
    | _,_ => none
   | _ => none
  | .builtin .max =>
   match c.args.toList with
   | [x,y] =>
    match trX x,trX y with
    | some x,some y => some (.minmax true x y)
    | _,_ => none
   | _ => none
  | .builtin .append =>
   match c.args.toList,c.argTypes.toList with
   | [s,x],[t,t'] =>
    match elemT P t with
    | some e =>
     match sizeT P e,trX s,trX x with
     | some n,some s,some x => if (elemT P t').isSome && okElem P e n then some (.app n s x) else none
     | _,_,_ => none
    | none => none
   | _,_ => none
  | _ => none
 | _ => none
end
section
section
variable {P:Program} {C:Cx} {w:World}
theorem ofC_rp {x:Value} (h:x.oneCell' = true):RpC C w (ofC x) x:=by
 unfold ofC; split
 ·exact .nil
 ·exact .v _ h
theorem zef:∀ {l:List Value},l.all (·.oneCell') = true -> RpL C w (l.map ofC) l
 | [],_ => .nil
 | x :: l,h => by
  simp only [all_cons,Bool.and_eq_true] at h;exact .cons (ofC_rp h.1) (zef h.2)
theorem ofV_rp {x:Value} (h:okC x = true):RpV C w (ofV x) x:=by
 unfold ofV; split
 ·rename_i cs
  have:=RpV.ag (C:=C) (w:=w) _ cs.toList (zef (by simpa [okC] using h))
  simpa using this
 ·rename_i vs
  have hv:vs = #[]:=by simpa [okC] using h
  subst hv;exact .tup [] [] rfl (fun j x y h => by simp at h)
 ·exact .d _ _ .nil
 ·rename_i h1 h2 h3
  refine .d _ _ (.v _ ?_)
  cases x <;> first | rfl | exact absurd rfl (h1 _) | exact absurd rfl (h2 _)
def Ro (C:Cx) (w:World) (ρ:Operand -> Value) (e:X -> PV):Prop:=∀ x m,trX x = some m -> RpV C w (e m) (ρ x)
def Bo (C:Cx) (w:World) (bx:LP PC):Prop:=C.nb = bx.length /\ ∀ p cs,bx[p]? = some cs -> ∃ vs e,w.heap[C.bx p]? = some (.cells (toArray vs) e (0,0)) /\ RpL C w cs vs
theorem zdg:∀ {l:List Operand} {xs:List X},trXs l = some xs -> l.length = xs.length /\ ∀ (j:Nat) (x:Operand),l[j]? = some x -> ∃ y,xs[j]? = some y /\ trX x = some y
 | [],xs,h => by simp [trXs] at h; subst h; simp
 | a :: l,xs,h => by
  simp only [trXs] at h
  split at h
  ·rename_i y r h1 h2
   simp only [sI] at h; subst h
   obtain ⟨k1,k2⟩:=zdg h2;refine ⟨by simp [k1],fun j x hx => ?_⟩
   match j with
   | 0 => simp at hx; subst hx; exact ⟨y,rfl,h1⟩
   | j + 1 => simpa using k2 j x (by simpa using hx)
  ·cases h
theorem zck {v:PV} {x:Value} {cs:List PC} (h:RpV C w v x) (hc:pcells v = some cs):RpL C w cs x.cells.toList:=by
 cases h with
 | d c _ hv =>
  simp only [pcells,sI] at hc; subst hc
  have:x.cells = #[x]:=by have:=hv.one; cases x <;> simp_all [Value.oneCell',Value.cells]
  rw [this]; exact .one1 hv
 | ag cs vs hl => simp only [pcells,sI] at hc; subst hc; simpa [Value.cells] using hl
 | _ => simp [pcells] at hc
theorem rangeAt_of {b o:Nat} {us:List Value} (h:∀ j (hj:j < us.length),w.cell? ⟨b,o + j,none⟩ = some us[j]):w.rangeAt b o us:=by
 intro j v hv
 have hj:j < us.length:=by
  rcases Nat.lt_or_ge j us.length with h | h
  ·exact h
  ·simp [getElem?_eq_none h] at hv
 rw [getElem?_eq_getElem hj] at hv; simp at hv; subst hv; exact h j hj
theorem zbG {t:TypeId} {ag:Bool} {n:Nat} {b o:Nat} {us:List Value} (hr:w.rangeAt b o us) (hl:us.length = n) (h1:isRowT P t = some ag) (h2:sizeT P t = some n) (h3:ag = true \/ n = 1) :
  ∃ u,(Instr.loadAt t (.pointer (some ⟨b,o,none⟩))).run P w = .ok u w /\ ∀ cs v,RpL C w cs us -> ldv ag cs = some v -> RpV C w v u:=by
 unfold isRowT at h1
 cases hu:P.underlying t with
 | none => rw [hu] at h1; cases h1
 | some d =>
  rw [hu] at h1
  cases ag with
  | true =>
   have hd:d.isRow = true:=by cases d <;> first | rfl | (simp at h1)
   refine ⟨_,run_loadAt_mid w b o t us d hr hu hd (by rw [hl]; exact h2),fun cs v hc hv => ?_⟩;simp only [ldv,sI] at hv; subst hv
   exact .ag _ _ hc
  | false =>
   have hn1:n = 1:=by rcases h3 with h | h; cases h; exact h
   subst hn1
   match us,hl with
   | [x],_ =>
    have hc:=hr 0 x rfl
    have hi:(isAgg t).run P w = .ok false w:=by
     unfold isAgg; rw [Sem.run_bind,run_underlying hu w]; cases d <;> simp_all
    refine ⟨x,?_,fun cs v hcs hv => ?_⟩
    ·simp only [Nat.add_zero] at hc
     simp [Instr.loadAt,Instr.sureAddr,loadVar,hi,hc]
    ·match cs,hv with
     | [c],hv =>
      simp only [ldv,sI] at hv; subst hv
      obtain ⟨v',vr,he,hcv,_⟩:=hcs.inv1;simp only [cons.injEq] at he; obtain ⟨rfl,_⟩:=he
      exact .d _ _ hcv
theorem zeP {bx:LP PC} (hB:Bo C w bx) {p:Nat} {cs:List PC} (h:bx[p]? = some cs) {o n:Nat} (hn:o + n <= cs.length) :
  ∃ us,us.length = n /\ w.rangeAt (C.bx p) o us /\ RpL C w ((cs.drop o).take n) us:=by
 obtain ⟨vs,e,hh,hl⟩:=hB.2 p cs h;have hl1:=hl.1;refine ⟨(vs.drop o).take n,by simp; omega,?_,hl.slice o n⟩;intro j v hv;rw [zae hh];rw [getElem?_take] at hv
 split at hv
 ·rw [getElem?_drop] at hv; simpa using hv
 ·cases hv
theorem pt_range {cs:List PC} {x:Value} (h:RpV C w (.pt cs) x) {n:Nat} (hn:n <= cs.length) :
  ∃ b o us,x = .pointer (some ⟨b,o,none⟩) /\ us.length = n /\ w.rangeAt b o us /\ RpL C w (cs.take n) us:=by
 cases h with
 | pt cs b o u hc hf h =>
  refine ⟨b,o,(range n).map u,rfl,by simp,?_,by simp; omega,?_⟩
  ·refine rangeAt_of fun j hj => ?_
   simp at hj;rw [hc j (by omega)]; simp
  ·intro j c y h1 h2
   rw [getElem?_take] at h1
   split at h1
   ·rename_i hj
    have:y = u j:=by simp [getElem?_map,getElem?_range hj] at h2; exact h2.symm
    subst this; exact h j c h1
   ·cases h1
theorem sl_form {t:Nat} {es:LP PC} {x:Value} (h:RpC C w (.sl t es) x):∃ a c,x = .slice a es.length c /\ es.length <= c + es.length /\
  (es = [] \/ ∃ b o n u,a = some ⟨b,o,none⟩ /\ es.length <= c /\ c <= maxLen /\ RowAt C w b o n es u /\ ∀ (i j:Nat) (e:List PC) (y:PC),es[i]? = some e -> e[j]? = some y -> RpC C w y (u i j)) /\ (es = [] -> a = none -> t = 1 -> c = 0):=by
 cases h with
 | emp a c => exact ⟨a,c,rfl,by simp,.inl rfl,fun _ _ h => by cases h⟩
 | nil => exact ⟨none,0,rfl,by simp,.inl rfl,fun _ _ _ => rfl⟩
 | nilo t h2 ht hb => exact ⟨none,0,rfl,by simp,.inl rfl,fun _ _ _ => rfl⟩
 | rd es b o n c u hl hc hr h => exact ⟨_,c,rfl,by omega,.inr ⟨b,o,n,u,rfl,hl,hc,hr,h⟩,fun _ h => by cases h⟩
 | own t es b u h2 ht hb hlen hl hc hr h => exact ⟨_,_,rfl,by omega,.inr ⟨b,0,_,u,rfl,hl,hc,hr,h⟩,fun _ h => by cases h⟩
theorem zaR {t e:TypeId} (h:elemT P t = some e):P.underlying t = some (.slice e) /\ P.elem t = e:=by
 unfold elemT at h
 split at h
 ·rename_i e' hu; simp only [sI] at h; subst h; exact ⟨hu,by simp [Program.elem,hu]⟩
 ·cases h
theorem za9 {t:TypeId} {n:Nat} (h:sizeT P t = some n):∀ w,(sizeOf t).run P w = .ok n w:=by
 unfold sizeT at h
 cases hi:P.info? t with
 | none => rw [hi] at h; cases h
 | some i => rw [hi] at h; simp at h; intro w; simp [sizeOf,typeInfo,hi,h]
theorem zb8 {t:TypeId} (h:isStrT P t = true):P.underlying t = some .string:=by
 unfold isStrT at h; split at h
 ·assumption
 ·cases h
theorem run_ix {t e:TypeId} {n:Nat} {tk:Nat} {es:LP PC} {x y:Value} {k:IntKind} {j:Int} {c:List PC} (he:elemT P t = some e) (hn:sizeT P e = some n) (hx:RpC C w (.sl tk es) x) (hy:y = .int k j)
  (h0:0 <= j) (hc:es[j.toNat]? = some c) (hl:c.length = n):∃ u,(Instr.indexAt t x y).run P w = .ok u w /\ RpV C w (.pt c) u:=by
 subst hy
 have hjl:j.toNat < es.length:=by
  rcases Nat.lt_or_ge j.toNat es.length with h | h
  ·exact h
  ·simp [getElem?_eq_none h] at hc
 obtain ⟨a,cp,rfl,_,h | ⟨b,o,n',u,rfl,h1,h2,hr,hcell⟩,_⟩:=sl_form hx
 ·subst h; simp at hjl
 ·obtain ⟨g1,g2⟩:=zaR he
  have hn':n' = n:=by rw [<- hl]; exact (hr.wid c (mem_of_getElem? hc)).symm
  subst hn'
  refine ⟨.pointer (some ⟨b,o + n' * j.toNat,none⟩),?_,?_⟩
  ·rw [run_indexAt_slice w t _ _ _ k j (by rw [g2]; exact g1),if_pos ⟨h0,by omega⟩,g2,za9 hn]
   simp only [Result.andThen,zav];rw [Nat.mul_comm]
  ·refine .pt c b _ (fun q => u j.toNat q) (fun q hq => ?_) (fun q hq => ?_) (fun q y hq => hcell _ _ _ _ hc hq)
   ·rw [Nat.add_assoc]; exact hr.cell _ _ hjl (by omega)
   ·rw [Nat.add_assoc]; exact hr.fix _ _ hjl (by omega)
theorem zbp {ρ:Operand -> Value} {e:X -> PV} (hρ:Ro C w ρ e) {lo:Option Operand} {lo':Option X} (ht:trXo lo = some lo') {dft l:Nat} (hb:bound e dft lo' = some l) :
  (lo = none /\ l = dft) \/ ∃ x k i,lo = some x /\ ρ x = .int k i /\ 0 <= i /\ l = i.toNat:=by
 cases lo with
 | none => simp only [trXo,sI] at ht; subst ht; simp only [bound,sI] at hb; exact .inl ⟨rfl,hb.symm⟩
 | some x =>
  simp only [trXo] at ht
  cases hx:trX x with
  | none => rw [hx] at ht; cases ht
  | some m =>
   rw [hx] at ht; simp only [Option.map_some,sI] at ht; subst ht
   have hr:=hρ x m hx;simp only [bound] at hb
   split at hb
   ·rename_i k i hm
    rw [hm] at hr;generalize hy:ρ x = y at hr
    cases hr with
    | d c v hv => cases hv with
     | v y hy' =>
      split at hb
      ·simp only [sI] at hb; exact .inr ⟨x,k,i,rfl,hy,‹_›,hb.symm⟩
      ·cases hb
   ·cases hb
theorem run_slc {t e:TypeId} {n:Nat} {tk:Nat} {es:LP PC} {x:Value} {ρ:Operand -> Value} {ev':X -> PV} (hρ:Ro C w ρ ev') {lo hi:Option Operand} {lo' hi':Option X} (he:elemT P t = some e) (hn:sizeT P e = some n)
  (hw:∀ d ∈ es,d.length = n) (hx:RpC C w (.sl tk es) x) (h1:trXo lo = some lo') (h2:trXo hi = some hi') {l h:Nat} (hl:bound ev' 0 lo' = some l) (hh:bound ev' es.length hi' = some h) (hlh:l <= h) (hhl:h <= es.length) :
  ∃ u,(Instr.sliceAt t x (lo.map ρ) (hi.map ρ) none).run P w = .ok u w /\ RpC C w (.sl 0 ((es.drop l).take (h - l))) u:=by
 obtain ⟨g1,g2⟩:=zaR he;obtain ⟨a,cp,rfl,_,hf,_⟩:=sl_form hx
 have hcp:h <= cp:=by
  rcases hf with hf | ⟨b,o,n',u,rfl,k1,k2,hr,hcell⟩
  ·subst hf; simp at hhl; omega
  ·omega
 have hsb:(Instr.sliceBounds true es.length cp (lo.map ρ) (hi.map ρ) none).run P w = .ok (l,h,cp) w:=by
  rcases zbp hρ h1 hl with ⟨rfl,rfl⟩ | ⟨xl,kl,il,rfl,el,pl,rfl⟩ <;> rcases zbp hρ h2 hh with ⟨rfl,rfl⟩ | ⟨xh,kh,ih,rfl,eh,ph,rfl⟩
  ·simp [Instr.sliceBounds]
  ·have e1:ih <= cp:=by omega
   simp [Instr.sliceBounds,eh,run_sliceBound_if,ph,e1]
  ·have e1:il <= es.length:=by omega
   simp [Instr.sliceBounds,el,run_sliceBound_if,pl,e1]
  ·have e1:ih <= cp:=by omega
   have e2:il <= ih:=by omega
   have e3:¬ max ih 0 < il:=by omega
   simp [Instr.sliceBounds,el,eh,run_sliceBound_if,pl,ph,e1,e3]
 refine ⟨sliced a l h cp n,?_,?_⟩
 ·rw [run_sliceAt_slice w t _ _ _ _ (by rw [g2]; exact g1),run_slice_any w t a es.length cp (by rw [g2]; exact g1),hsb]
  simp only [Result.andThen];rw [g2,za9 hn]
 ·have hlen:((es.drop l).take (h - l)).length = h - l:=by simp; omega
  unfold sliced;by_cases hne:(es.drop l).take (h - l) = []
  ·rw [hne] at hlen ⊢
   simp only [length_nil] at hlen;rw [<- hlen]; exact .emp _ _
  ·have hpos:0 < h - l:=by
    rcases Nat.eq_zero_or_pos (h - l) with h0 | h0
    ·rw [h0] at hne; simp at hne
    ·exact h0
   rcases hf with hf | ⟨b,o,n',u,rfl,k1,k2,hr,hcell⟩
   ·subst hf; simp at hne
   ·have hn':n' = n:=by
     have hm:es[l]'(by omega) ∈ es:=getElem_mem _;rw [<- hw _ hm,<- hr.wid _ hm]
    subst hn'
    rw [if_neg (by omega),Option.map_some,zav]
    have idx:∀ i,i < ((es.drop l).take (h - l)).length -> ((es.drop l).take (h - l))[i]? = es[l + i]?:=fun i hi => by
     rw [getElem?_take,if_pos (by rw [hlen] at hi; exact hi),getElem?_drop]
    have key:=RpC.rd (C:=C) (w:=w) ((es.drop l).take (h - l)) b (o + l * n') n' (cp - l) (fun i j => u (l + i) j) (by rw [hlen]; omega) (by omega) ⟨hr.pos,fun d hd => hw d (mem_of_mem_drop (mem_of_mem_take hd)),fun i j hi hj => by
      have:=hr.cell (l + i) j (by rw [hlen] at hi; omega) hj
      rw [show o + l * n' + (n' * i + j) = o + (n' * (l + i) + j) by rw [Nat.mul_add,Nat.mul_comm l n']; omega]; exact this,fun i j hi hj => by
      have:=hr.fix (l + i) j (by rw [hlen] at hi; omega) hj
      rw [show o + l * n' + (n' * i + j) = o + (n' * (l + i) + j) by rw [Nat.mul_add,Nat.mul_comm l n']; omega]; exact this⟩ (fun i j d y hd hy => by
      have hi:i < ((es.drop l).take (h - l)).length:=by
       rcases Nat.lt_or_ge i ((es.drop l).take (h - l)).length with h | h
       ·exact h
       ·simp [getElem?_eq_none h] at hd
      rw [idx i hi] at hd; exact hcell (l + i) j d y hd hy)
    rw [hlen] at key; exact key
theorem bounds_run {ρ:Operand -> Value} {ev':X -> PV} (hρ:Ro C w ρ ev') {lo hi:Option Operand} {lo' hi':Option X} (h1:trXo lo = some lo') (h2:trXo hi = some hi') {len cp l h:Nat} (hl:bound ev' 0 lo' = some l) (hh:bound ev' len hi' = some h) (hlh:l <= h) (hhl:h <= len) (hcp:len <= cp) :
  (Instr.sliceBounds true len cp (lo.map ρ) (hi.map ρ) none).run P w = .ok (l,h,cp) w:=by
 rcases zbp hρ h1 hl with ⟨rfl,rfl⟩ | ⟨xl,kl,il,rfl,el,pl,rfl⟩ <;> rcases zbp hρ h2 hh with ⟨rfl,rfl⟩ | ⟨xh,kh,ih,rfl,eh,ph,rfl⟩
 ·simp [Instr.sliceBounds]
 ·have e1:ih <= cp:=by omega
  simp [Instr.sliceBounds,eh,run_sliceBound_if,ph,e1]
 ·have e1:il <= h:=by omega
  simp [Instr.sliceBounds,el,run_sliceBound_if,pl,e1]
 ·have e1:ih <= cp:=by omega
  have e2:il <= ih:=by omega
  have e3:¬ max ih 0 < il:=by omega
  simp [Instr.sliceBounds,el,eh,run_sliceBound_if,pl,ph,e1,e3]
theorem run_slcR {t e:TypeId} {n b:Nat} {ρ:Operand -> Value} {ev':X -> PV} (hρ:Ro C w ρ ev') {lo hi:Option Operand} {lo' hi':Option X} (he:elemT P t = some e) (hn:sizeT P e = some n)
  (h1:trXo lo = some lo') (h2:trXo hi = some hi') {len cap h:Nat} (hl:bound ev' 0 lo' = some 0) (hh:bound ev' len hi' = some h) (hhl:h <= len) (hlc:len <= cap) :
  (Instr.sliceAt t (.slice (some ⟨b,0,none⟩) len cap) (lo.map ρ) (hi.map ρ) none).run P w = .ok (.slice (some ⟨b,0,none⟩) h cap) w:=by
 obtain ⟨g1,g2⟩:=zaR he;rw [run_sliceAt_slice w t _ _ _ _ (by rw [g2]; exact g1),run_slice_any w t (some ⟨b,0,none⟩) len cap (by rw [g2]; exact g1),bounds_run hρ h1 h2 hl hh (Nat.zero_le _) hhl hlc];simp only [Result.andThen];rw [g2,za9 hn];simp [sliced,zav]
theorem run_slcs {t:TypeId} {s:ByteArray} {ρ:Operand -> Value} {ev':X -> PV} (hρ:Ro C w ρ ev') {lo hi:Option Operand} {lo' hi':Option X} (he:isStrT P t = true)
  (h1:trXo lo = some lo') (h2:trXo hi = some hi') {l h:Nat} (hl:bound ev' 0 lo' = some l) (hh:bound ev' s.data.toList.length hi' = some h) (hlh:l <= h) (hhl:h <= s.data.toList.length) :
  (Instr.sliceAt t (.string s) (lo.map ρ) (hi.map ρ) none).run P w = .ok (.string ⟨((s.data.toList.drop l).take (h - l)).toArray⟩) w:=by
 have g1:=zb8 he;have hsz:s.data.toList.length = s.size:=Array.length_toList;rw [hsz] at hh hhl
 have hsb:(Instr.sliceBounds false s.size s.size (lo.map ρ) (hi.map ρ) none).run P w = .ok (l,h,s.size) w:=by
  rcases zbp hρ h1 hl with ⟨rfl,rfl⟩ | ⟨xl,kl,il,rfl,el,pl,rfl⟩ <;> rcases zbp hρ h2 hh with ⟨rfl,rfl⟩ | ⟨xh,kh,ih,rfl,eh,ph,rfl⟩
  ·simp [Instr.sliceBounds]
  ·have e1:ih <= s.size:=by omega
   simp [Instr.sliceBounds,eh,run_sliceBound_if,ph,e1]
  ·have e1:il <= s.size:=by omega
   simp [Instr.sliceBounds,el,run_sliceBound_if,pl,e1]
  ·have e1:ih <= s.size:=by omega
   have e2:il <= ih:=by omega
   have e3:¬ max ih 0 < il:=by omega
   simp [Instr.sliceBounds,el,eh,run_sliceBound_if,pl,ph,e1,e3]
 rw [run_sliceAt_string w t _ _ _ _ g1]
 have hx:s.extract l h = ⟨((s.data.toList.drop l).take (h - l)).toArray⟩:=by
  have:=zcP s.data.toList l h
  simpa using this
 simp [Instr.slice,run_underlying g1,hsb,hx]
end
end
section
section
variable {P:Program} {C:Cx} {w:World}
theorem zcW {t:TypeId} (hd:P.underlying t = some .bool) (k:Nat) (a b:Bool):(Op.equalIn (k + 1) t (.bool a) (.bool b)).run P w = .ok (a == b) w:=by
 simp [Op.equalIn,run_underlying hd]
theorem binV_run {op:BinOp} {isb:Bool} {t:TypeId} {d:TypeDesc} {a b c:Value} (hd:P.underlying t = some d) (hb:isb = true -> d = .bool) (h:binV op isb a b = some c) (x y:Operand) :
  (do eqGuard op t x y a b; binOp op t a b:Sem Value).run P w = .ok c w /\ c.oneCell' = true:=by
 unfold binV at h
 split at h
 ·rename_i k m k' m'
  by_cases hk:k = k'
  ·subst hk
   rw [if_pos rfl] at h
   cases op <;> simp only [] at h <;> (try split at h) <;> (try (cases h; done)) <;> simp only [sI] at h <;> subst h <;>
    simp_all [eqGuard,binOp,Op.intArith,Op.intDiv,Op.intBits,Op.intCmp,Op.shift,Value.oneCell']
   all_goals (intro hh; omega)
  ·rw [if_neg hk] at h
   cases op <;> simp only [] at h <;> (try split at h) <;> (try (cases h; done)) <;> simp only [sI] at h <;> subst h <;>
    simp_all [eqGuard,binOp,Op.shift,Value.oneCell']
   all_goals (intro hh; omega)
 ·rename_i s s'
  cases op <;> simp only [] at h <;> (try split at h) <;> (try (cases h; done)) <;> simp only [sI] at h <;> subst h <;>
   simp_all [eqGuard,binOp,Op.stringOp,Value.oneCell',IntKind.max,IntKind.bits,IntKind.signed]
  all_goals try omega
 ·rename_i m m'
  cases isb with
  | false => simp at h
  | true =>
   have:=hb rfl; subst this
   cases op <;> simp only [if_true] at h <;> (try (cases h; done)) <;> simp only [sI] at h <;> subst h <;>
    simp [eqGuard,binOp,Op.equal,Op.maxDepth,zcW hd 9999,Value.oneCell']
 ·cases h
theorem spl_len {z:List PC} {o:Nat} {cs:List PC} (h:o + cs.length <= z.length):(spl z o cs).length = z.length:=by
 unfold spl; simp; omega
theorem zbH:∀ (us:List Value) (vs:List Value) (o k:Nat),o + k + us.length <= vs.length ->
  ((us.zipIdx k).foldl (fun (cs:Array Value) (p:Value × Nat) => cs.setIfInBounds (o + p.2) p.1) vs.toArray) = (vs.take (o + k) ++ us ++ vs.drop (o + k + us.length)).toArray
 | [],vs,o,k,h => by simp
 | u :: us,vs,o,k,h => by
  simp only [zipIdx_cons,foldl_cons,length_cons] at h ⊢;rw [setIfInBounds_toArray,zbH us (vs.set (o + k) u) o (k + 1) (by simp; omega)]
  congr 1
  rw [show o + (k + 1) = o + k + 1 by omega,take_succ_eq_append_getElem (by simp; omega),drop_set_of_lt (by omega)];simp [show o + k + 1 + us.length = o + k + (us.length + 1) by omega,take_set_of_le]
theorem zcl {z cs:List PC} {vs us:List Value} (h:RpL C w z vs) (k:RpL C w cs us) (o:Nat):RpL C w (spl z o cs) (vs.take o ++ us ++ vs.drop (o + us.length)):=by
 unfold spl;have h1:=h.slice 0 o;have h2:=h.slice (o + us.length) (z.length - (o + us.length));simp only [drop_zero] at h1;rw [take_of_length_le (by simp),take_of_length_le (by simp [h.1])] at h2;rw [<- k.1];exact (h1.append k).append h2
theorem zcQ {fs:Array Field} {ρ:Operand -> Value} {e:X -> PV} (hρ:Ro C w ρ e) (place:Nat -> Option (Nat × Nat)) (hpl:∀ i f n,fs[i]? = some f -> sizeT P f.type = some n -> place i = some (f.offset,n)) :
  ∀ {ps:List (Nat × Operand)} {l:List (Nat × Nat × X)} {z z':List PC} {vs:List Value},trParts P fs ps = some l -> RpL C w z vs -> fillP e z l = some z' ->
   ∃ us,Instr.fill place vs.toArray (ps.map fun p => (p.1,ρ p.2)) = some us.toArray /\ RpL C w z' us
 | [],l,z,z',vs,h,hz,hf => by
  simp only [trParts,sI] at h; subst h
  simp only [fillP,sI] at hf; subst hf
  exact ⟨vs,rfl,hz⟩
 | (i,x) :: ps,l,z,z',vs,h,hz,hf => by
  simp only [trParts] at h
  split at h
  ·rename_i f y l' h1 h2 h3
   cases hn:sizeT P f.type with
   | none => rw [hn] at h; cases h
   | some n =>
    rw [hn] at h; simp only [Option.map_some,sI] at h; subst h
    simp only [fillP] at hf
    split at hf
    ·rename_i cs hcs
     split at hf
     ·rename_i hc
      have hk:=zck (hρ x y h2) hcs;have hsz:(ρ x).cells.size = n:=by rw [<- Array.length_toList,hk.1]; exact hc.1
      have hvl:f.offset + (ρ x).cells.size <= vs.length:=by rw [hsz,hz.1]; exact hc.2
      have hnew:=zcl hz hk f.offset;obtain ⟨us,hu,hr⟩:=zcQ hρ place hpl h3 hnew hf;refine ⟨us,?_,hr⟩;simp only [map_cons,Instr.fill,hpl i f n h1 hn];rw [if_neg (by simp only [Bool.or_eq_true,decide_eq_true_eq,size_toArray,not_or]; exact ⟨fun hh => hh hsz,by omega⟩)]
      have:=zbH (ρ x).cells.toList vs f.offset 0 (by simpa using hvl)
      simp only [Nat.add_zero] at this;rw [<- Array.foldl_toList,Array.toList_zipIdx];exact (congrArg (fun z => Instr.fill place z (ps.map fun p => (p.1,ρ p.2))) this).trans hu
     ·cases hf
    ·cases hf
  ·cases h
theorem zdZ:∀ {es:LP PC} {l:L8},byteL es = some l -> ∃ ns:List Int,es = ns.map (fun n => [PC.v (.int .u8 n)]) /\ l = ns.map fun n => UInt8.ofNat n.toNat
 | [],l,h => by simp only [byteL,sI] at h; subst h; exact ⟨[],rfl,rfl⟩
 | e :: es,l,h => by
  unfold byteL at h
  split at h
  ·cases ‹_ :: _ = []›
  ·rename_i n r he
   simp only [cons.injEq] at he; obtain ⟨rfl,rfl⟩:=he
   cases hb:byteL es with
   | none => rw [hb] at h; cases h
   | some l' =>
    rw [hb] at h; simp only [Option.map_some,sI] at h; subst h
    obtain ⟨ns,rfl,rfl⟩:=zdZ hb;exact ⟨n :: ns,rfl,rfl⟩
  ·cases h
theorem run_b2s {src dst e:TypeId} (hs:P.underlying src = some (.slice e)) (he:P.underlying e = some (.int .u8)) (hd:P.underlying dst = some .string) {t:Nat} {es:LP PC} {x:Value} (hx:RpC C w (.sl t es) x) {l:L8} (hb:byteL es = some l) :
  (convert src dst x).run P w = .ok (.string ⟨l.toArray⟩) w:=by
 obtain ⟨ns,rfl,rfl⟩:=zdZ hb;obtain ⟨a,c,rfl,_,h | ⟨b,o,n,u,rfl,h1,h2,hr,hcell⟩,_⟩:=sl_form hx
 ·rw [map_eq_nil_iff] at h; subst h
  rw [run_convert_bytes_string w src dst e a _ c hs he hd]
  cases a <;> simp [Conv.bytesToString,loadCells,loadCellsFrom] <;> rfl
 ·rw [length_map] at *
  have:=run_convert_bytes_arg (P:=P) w src e hs he b o ns.length c ns rfl (fun i hi => by
   have hn1:n = 1:=by
    have:=hr.wid [PC.v (.int .u8 ns[i])] (mem_map.2 ⟨ns[i],getElem_mem hi,rfl⟩)
    simpa using this.symm
   subst hn1;have h3:=hr.cell i 0 (by simpa using hi) (by omega);have h4:=hcell i 0 [PC.v (.int .u8 ns[i])] (.v (.int .u8 ns[i])) (by simp [hi]) rfl;generalize u i 0 = z at h3 h4
   cases h4
   simp only [Nat.one_mul,Nat.add_zero] at h3;rw [h3]; simp [hi]) dst hd
  rw [this]; rfl
theorem qf_run {o:Oper} {m:MO} (ht:trOp P o.op = some m) {ρ:Operand -> Value} {e:X -> PV} (hρ:Ro C w ρ e) {bx:LP PC} (hB:Bo C w bx) {v:PV} (h:qf e bx m = some v) :
  ∃ u,(execOp ρ o).run P w = .ok (.value u) w /\ RpV C w v u:=by
 obtain ⟨dst,op,ty,pos,after,guard⟩:=o;simp only at ht
 cases op <;> simp only [trOp] at ht <;> (try (cases ht; done))
 case move x | assign x =>
  cases hx:trX x with
  | none => rw [hx] at ht; cases ht
  | some y =>
   rw [hx] at ht; simp only [Option.map_some,sI] at ht; subst ht
   simp only [qf,sI] at h; subst h
   exact ⟨ρ x,by simp [execOp],hρ x y hx⟩
 case pick c a b =>
  split at ht
  ·rename_i c' a' b' h1 h2 h3
   simp only [sI] at ht; subst ht
   simp only [qf] at h
   split at h
   ·rename_i t hc
    simp only [sI] at h; subst h
    have hr:=hρ c c' h1;rw [hc] at hr;generalize hy:ρ c = y at hr
    cases hr with
    | d _ _ hv => cases hv with
     | v _ _ =>
      refine ⟨if t then ρ a else ρ b,by simp [execOp,hy,asBool],?_⟩
      cases t with
      | true => exact hρ a a' h2
      | false => exact hρ b b' h3
   ·cases h
  ·cases ht
 case alloc e' =>
  split at ht
  ·split at ht
   ·split at ht <;> (simp only [sI] at ht; subst ht; simp [qf] at h)
   ·cases ht
  ·cases ht
 case box e' x =>
  cases hx:trX x with
  | none => rw [hx] at ht; cases ht
  | some y => rw [hx] at ht; simp only [Option.map_some,sI] at ht; subst ht; simp [qf] at h
 case build t ps =>
  split at ht
  ·rename_i z fs hz hu
   split at ht
   ·rename_i hall
    simp only [Bool.and_eq_true] at hall
    cases hp:trParts P fs ps.toList with
    | none => rw [hp] at ht; cases ht
    | some l =>
     rw [hp] at ht; simp only [Option.map_some,sI] at ht; subst ht
     simp only [qf] at h
     cases hf:fillP e (z.cells.toList.map ofC) l with
     | none => rw [hf] at h; cases h
     | some z' =>
      rw [hf] at h; simp only [Option.map_some,sI] at h; subst h
      obtain ⟨it,hi1,hi2⟩:=Option.bind_eq_some_iff.1 hz
      have hpl:∃ places,fs.toList.mapM (fun (f:Field) => (P.info? f.type).map fun i => (f.offset,i.size)) = some places /\ ∀ (i:Nat) (f:Field) (n:Nat),fs[i]? = some f -> sizeT P f.type = some n -> places.toArray[i]? = some (f.offset,n):=by
       have hall2:=hall.2;clear hall hp hf hu hz
       have key:∀ (L:List Field),L.all (fun (f:Field) => (P.info? f.type).isSome) = true -> ∃ places,L.mapM (fun (f:Field) => (P.info? f.type).map fun i => (f.offset,i.size)) = some places /\ ∀ (i:Nat) (f:Field) (n:Nat),L[i]? = some f -> sizeT P f.type = some n -> places[i]? = some (f.offset,n):=by
        intro L
        induction L with
        | nil => intro _; exact ⟨[],rfl,fun i f n hh => by simp at hh⟩
        | cons f0 L ih =>
         intro hL;simp only [all_cons,Bool.and_eq_true] at hL;obtain ⟨i0,hi0⟩:=Option.isSome_iff_exists.1 hL.1;obtain ⟨pl,hpl1,hpl2⟩:=ih hL.2;refine ⟨(f0.offset,i0.size) :: pl,by simp [mapM_cons,hi0,hpl1],fun i f n hh hn => ?_⟩
         match i with
         | 0 => simp at hh; subst hh; simp [sizeT,hi0] at hn; subst hn; rfl
         | i + 1 => simpa using hpl2 i f n (by simpa using hh) hn
       obtain ⟨pl,h1,h2⟩:=key fs.toList hall2;exact ⟨pl,h1,fun i f n hh hn => by simpa using h2 i f n (by simpa using hh) hn⟩
      obtain ⟨places,hp1,hp2⟩:=hpl;obtain ⟨us,hu1,hu2⟩:=zcQ hρ (places.toArray[·]?) hp2 hp (zef (C:=C) (w:=w) hall.1) hf;refine ⟨.agg us.toArray,?_,.ag _ _ hu2⟩
      have:=run_build (P:=P) w t (ps.map fun (i,x) => (i,ρ x)) us.toArray (by
       unfold Program.built;simp only [hi1,hu,hi2,hp1]
       have:(ps.map fun (i,x) => (i,ρ x)).toList = ps.toList.map fun p => (p.1,ρ p.2):=by simp
       rw [this];simpa using hu1)
      simp [execOp,this]
   ·cases ht
  ·cases ht
 case buildSlice t len ps =>
  split at ht
  ·split at ht
   ·split at ht
    ·simp only [sI] at ht; subst ht; simp [qf] at h
    ·cases ht
   ·cases ht
  ·cases ht
 case load t x =>
  split at ht
  ·rename_i ag n y h1 h2 h3
   split at ht
   ·rename_i hag
    simp only [sI] at ht; subst ht
    have hag':ag = true \/ n = 1:=by simpa using hag
    have hr:=hρ x y h3;simp only [qf] at h
    split at h
    ·rename_i p o hy
     rw [hy] at hr;generalize hg:ρ x = g at hr
     cases hr
     split at h
     ·rename_i cs hcs
      split at h
      ·rename_i hle
       obtain ⟨us,e1,e2,e3⟩:=zeP hB hcs hle;obtain ⟨u,k1,k2⟩:=zbG e2 e1 h1 h2 hag';exact ⟨u,by simp [execOp,hg,k1],k2 _ _ e3 h⟩
      ·cases h
     ·cases h
    ·rename_i cs hy
     rw [hy] at hr
     split at h
     ·rename_i hle
      obtain ⟨b,o,us,e0,e1,e2,e3⟩:=pt_range hr hle;obtain ⟨u,k1,k2⟩:=zbG e2 e1 h1 h2 hag';exact ⟨u,by simp [execOp,e0,k1],k2 _ _ e3 h⟩
     ·cases h
    ·cases h
   ·cases ht
  ·cases ht
 case store t a x =>
  split at ht
  ·simp only [sI] at ht; subst ht; simp [qf] at h
  ·cases ht
 case nilCheck x =>
  cases hx:trX x with
  | none => rw [hx] at ht; cases ht
  | some y =>
   rw [hx] at ht; simp only [Option.map_some,sI] at ht; subst ht
   have hr:=hρ x y hx;simp only [qf] at h
   split at h <;> simp only [sI,reduceCtorEq] at h <;> subst h <;> rename_i hy <;> rw [hy] at hr <;> generalize hg:ρ x = g at hr <;> cases hr
   ·refine ⟨_,?_,.ref _ _ (by assumption)⟩; simp [execOp,hg]
   ·refine ⟨_,?_,.pt _ _ _ _ (by assumption) (by assumption) (by assumption)⟩; simp [execOp,hg]
   ·refine ⟨_,?_,.fn _ _ _ (by assumption) (by assumption)⟩; simp [execOp,hg]
 case binOp op t x y yt =>
  split at ht
  ·rename_i x' y' d h1 h2 h3
   simp only [sI] at ht; subst ht
   have hr1:=hρ x x' h1;have hr2:=hρ y y' h2;simp only [qf] at h
   split at h
   ·rename_i a c ha hc
    rw [ha] at hr1; rw [hc] at hr2
    generalize hg:ρ x = g at hr1;generalize hg2:ρ y = g2 at hr2
    cases hr1 with
    | d _ _ hv1 => cases hv1 with
     | v _ o1 => cases hr2 with
      | d _ _ hv2 => cases hv2 with
       | v _ o2 =>
        cases hb:binV op (isBoolD d) a c with
        | none => rw [hb] at h; cases h
        | some z =>
         rw [hb] at h; simp only [Option.map_some,sI] at h; subst h
         obtain ⟨k1,k2⟩:=binV_run (P:=P) (w:=w) h3 (by intro hh; cases d <;> first | rfl | (simp [isBoolD] at hh)) hb x y;refine ⟨z,?_,.d _ _ (.v _ k2)⟩;simp only [execOp,hg,hg2];rw [Sem.run_bind,k1]; rfl
   ·cases h
  ·cases ht
 case unOp op t x =>
  cases op <;> simp only at ht <;> (try (cases ht; done))
  case not =>
   cases hx:trX x with
   | none => rw [hx] at ht; cases ht
   | some y =>
    rw [hx] at ht; simp only [Option.map_some,sI] at ht; subst ht
    have hr:=hρ x y hx;simp only [qf] at h
    split at h
    ·rename_i b hy
     simp only [sI] at h; subst h
     rw [hy] at hr;generalize hg:ρ x = g at hr
     cases hr with
     | d _ _ hv => cases hv with
      | v _ o1 => exact ⟨_,by simp [execOp,hg,Op.unary],.d _ _ (.v _ rfl)⟩
    ·cases h
  case neg =>
   cases hx:trX x with
   | none => rw [hx] at ht; cases ht
   | some y =>
    rw [hx] at ht; simp only [Option.map_some,sI] at ht; subst ht
    have hr:=hρ x y hx;simp only [qf] at h
    split at h
    ·rename_i k n hy
     simp only [sI] at h; subst h
     rw [hy] at hr;generalize hg:ρ x = g at hr
     cases hr with
     | d _ _ hv => cases hv with
      | v _ o1 => exact ⟨_,by simp [execOp,hg,Op.unary,Op.intArith],.d _ _ (.v _ rfl)⟩
    ·cases h
 case convert src dst x =>
  split at ht
  ·rename_i k1 k y h1 h2 h3
   simp only [sI] at ht; subst ht
   have hr:=hρ x y h3;simp only [qf] at h
   split at h
   ·rename_i k' n hy
    simp only [sI] at h; subst h
    rw [hy] at hr;generalize hg:ρ x = g at hr
    cases hr with
    | d _ _ hv => cases hv with
     | v _ o1 => exact ⟨_,by simp [execOp,hg,convert,run_underlying h1,run_underlying h2,Conv.intToInt],.d _ _ (.v _ rfl)⟩
   ·cases h
  ·rename_i e' y h1 h2 h3
   split at ht
   ·rename_i he
    simp only [sI] at ht; subst ht
    have hr:=hρ x y h3;simp only [qf] at h
    split at h
    ·rename_i t es hy
     cases hb:byteL es with
     | none => rw [hb] at h; cases h
     | some l =>
      rw [hb] at h; simp only [Option.map_some,sI] at h; subst h
      rw [hy] at hr;generalize hg:ρ x = g at hr
      cases hr with
      | d _ _ hv => exact ⟨_,by simp [execOp,hg,run_b2s h1 he h2 hv hb],.d _ _ (.v _ rfl)⟩
    ·cases h
   ·cases ht
  ·cases ht
 case makeFunc fn first captured =>
  cases fn <;> simp only at ht <;> (try (cases ht; done))
  rename_i f
  split at ht
  ·rename_i hfi
   have hfi':first = #[]:=by simpa using hfi
   subst hfi'
   cases hx:trXs captured.toList with
   | none => rw [hx] at ht; cases ht
   | some xs =>
    rw [hx] at ht; simp only [Option.map_some,sI] at ht; subst ht
    simp only [qf,sI] at h; subst h
    obtain ⟨k1,k2⟩:=zdg hx
    have hc:=RpV.fn (C:=C) (w:=w) f (xs.map e) (captured.toList.map ρ) (by simp [<- k1]) (fun j p q hp hq => by
     rw [getElem?_map] at hp hq
     cases hcj:captured.toList[j]? with
     | none => rw [hcj] at hq; cases hq
     | some c0 =>
      rw [hcj] at hq;obtain ⟨y,hy1,hy2⟩:=k2 j c0 hcj;rw [hy1] at hp;simp only [Option.map_some,sI] at hp hq; subst hp; subst hq
      exact hρ c0 y hy2)
    refine ⟨_,?_,hc⟩;simp [execOp,Instr.makeFunc];rw [<- Array.toList_map]
  ·cases ht
 case slice t x lo hi mx =>
  cases mx <;> simp only at ht <;> (try (cases ht; done))
  split at ht
  ·rename_i y lo' hi' h1 h2 h3
   have hr:=hρ x y h1
   split at ht
   ·rename_i hs
    simp only [sI] at ht; subst ht
    simp only [qf] at h
    split at h
    ·rename_i s hy
     rw [hy] at hr;generalize hg:ρ x = g at hr
     cases hr with
     | d _ _ hv => cases hv with
      | v _ o1 =>
       split at h
       ·rename_i l hh e1 e2
        split at h
        ·rename_i hc
         simp only [sI] at h; subst h
         exact ⟨_,by simp [execOp,hg,run_slcs hρ hs h2 h3 e1 e2 hc.1 hc.2],.d _ _ (.v _ rfl)⟩
        ·cases h
       ·cases h
    ·cases h
   ·split at ht
    ·rename_i e' he
     cases hn:sizeT P e' with
     | none => rw [hn] at ht; cases ht
     | some n =>
      rw [hn] at ht; simp only [Option.map_some,sI] at ht; subst ht
      simp only [qf] at h
      split at h
      ·rename_i tk es hy
       rw [hy] at hr;generalize hg:ρ x = g at hr
       cases hr with
       | d _ _ hv =>
        split at h
        ·rename_i l hh e1 e2
         split at h
         ·rename_i hc
          simp only [sI] at h; subst h
          obtain ⟨u,k1,k2⟩:=run_slc hρ he hn hc.2.2 hv h2 h3 e1 e2 hc.1 hc.2.1;exact ⟨u,by simp [execOp,hg,k1],.d _ _ k2⟩
         ·cases h
        ·cases h
      ·rename_i p len cap hy
       rw [hy] at hr;generalize hg:ρ x = g at hr
       cases hr with
       | d _ _ hv => cases hv with
        | row _ _ _ q1 q2 q3 =>
         split at h
         ·rename_i hh e1 e2
          split at h
          ·rename_i hle
           simp only [sI] at h; subst h
           exact ⟨_,by simp [execOp,hg,run_slcR hρ he hn h2 h3 e1 e2 hle q2],.d _ _ (.row _ _ _ q1 (by omega) q3)⟩
          ·cases h
         ·cases h
      ·cases h
    ·cases ht
  ·cases ht
 case fieldAddr s x f =>
  split at ht
  ·rename_i fs y hu h1
   split at ht
   ·rename_i fl hfl
    split at ht
    ·rename_i n hn
     split at ht
     ·rename_i hpos
      simp only [sI] at ht; subst ht
      have hr:=hρ x y h1;have hs:¬ n = 0:=by omega
      have hfp:∀ a:Addr,(fieldPlace a fl).run P w = .ok (a.add fl.offset) w:=fun a => by simp [fieldPlace,za9 hn,hs]
      simp only [qf] at h
      split at h
      ·rename_i p o hy
       simp only [sI] at h; subst h
       rw [hy] at hr;generalize hg:ρ x = g at hr
       cases hr with
       | ref _ _ hp =>
        refine ⟨_,?_,.ref p (o + fl.offset) hp⟩;simp [execOp,hg,Instr.fieldAt,run_underlying hu,hfl,Instr.sureAddr,hfp,zav]
      ·rename_i cs hy
       simp only [sI] at h; subst h
       rw [hy] at hr;generalize hg:ρ x = g at hr
       cases hr with
       | pt _ b o u hc hf hh =>
        refine ⟨_,?_,.pt (cs.drop fl.offset) b (o + fl.offset) (fun j => u (fl.offset + j)) (fun j hj => ?_) (fun j hj => ?_) (fun j c hj => ?_)⟩
        ·simp [execOp,hg,Instr.fieldAt,run_underlying hu,hfl,Instr.sureAddr,hfp,zav]
        ·rw [Nat.add_assoc]; exact hc _ (by simp at hj; omega)
        ·rw [Nat.add_assoc]; exact hf _ (by simp at hj; omega)
        ·rw [getElem?_drop] at hj; exact hh _ c hj
      ·cases h
     ·cases ht
    ·cases ht
   ·cases ht
  ·cases ht
 case field s x f =>
  split at ht
  ·rename_i fs y hu h1
   split at ht
   ·rename_i fl hfl
    split at ht
    ·rename_i ag n ha hn
     split at ht
     ·rename_i hag
      have hag':ag = true \/ n = 1:=by simpa using hag
      simp only [sI] at ht; subst ht
      have hr:=hρ x y h1;simp only [qf] at h
      split at h
      ·rename_i cs hy
       rw [hy] at hr;generalize hg:ρ x = g at hr
       cases hr with
       | ag _ vs hl =>
        split at h
        ·rename_i hle
         have hsl:=hl.slice fl.offset n;have hl1:=hl.1;unfold isRowT at ha
         cases hty:P.underlying fl.type with
         | none => rw [hty] at ha; cases ha
         | some d =>
          rw [hty] at ha
          cases ag with
          | true =>
           simp only [ldv,sI] at h; subst h
           refine ⟨_,?_,.ag _ _ hsl⟩;have hia:(isAgg fl.type).run P w = .ok true w:=by unfold isAgg; rw [Sem.run_bind,run_underlying hty w]; cases d <;> simp_all
           simp [execOp,hg,Instr.field,run_underlying hu,hfl,asAgg,part,hia,za9 hn,extract_toArray,extract_eq_take_drop]
          | false =>
           have hn1:n = 1:=by rcases hag' with h | h; cases h; exact h
           subst hn1;have hia:(isAgg fl.type).run P w = .ok false w:=by unfold isAgg; rw [Sem.run_bind,run_underlying hty w]; cases d <;> simp_all
           have hlt:fl.offset < vs.length:=by omega
           have hlc:fl.offset < cs.length:=by omega
           rw [drop_eq_getElem_cons hlc] at h;simp only [take_succ_cons,take_zero,ldv,sI] at h; subst h
           refine ⟨vs[fl.offset],?_,.d _ _ (hl.2 fl.offset _ _ (getElem?_eq_getElem hlc) (getElem?_eq_getElem hlt))⟩;simp [execOp,hg,Instr.field,run_underlying hu,hfl,asAgg,part,hia,hlt]
        ·cases h
      ·cases h
     ·cases ht
    ·cases ht
   ·cases ht
  ·cases ht
 case indexAddr t x i =>
  split at ht
  ·rename_i e' y j h1 h2 h3
   split at ht
   ·rename_i n hn
    split at ht
    ·simp only [sI] at ht; subst ht
     have hr:=hρ x y h2;have hr2:=hρ i j h3;simp only [qf] at h
     split at h
     ·rename_i tk es k jj hy hj
      rw [hy] at hr; rw [hj] at hr2
      generalize hg:ρ x = g at hr;generalize hg2:ρ i = g2 at hr2
      cases hr2 with
      | d _ _ hv2 => cases hv2 with
       | v _ o2 => cases hr with
        | d _ _ hv =>
         split at h
         ·rename_i h0
          split at h
          ·rename_i c hc
           split at h
           ·rename_i hl
            simp only [sI] at h; subst h
            obtain ⟨u,k1,k2⟩:=run_ix h1 hn hv rfl h0 hc hl;exact ⟨u,by simp only [execOp,hg,hg2]; rw [Sem.run_bind,k1]; rfl,k2⟩
           ·cases h
          ·cases h
         ·cases h
     ·rename_i p len cap k jj hy hj
      rw [hy] at hr; rw [hj] at hr2
      generalize hg:ρ x = g at hr;generalize hg2:ρ i = g2 at hr2
      cases hr2 with
      | d _ _ hv2 => cases hv2 with
       | v _ o2 => cases hr with
        | d _ _ hv => cases hv with
         | row _ _ _ q1 q2 q3 =>
          split at h
          ·rename_i h0
           simp only [sI] at h; subst h
           obtain ⟨g1,g2'⟩:=zaR h1;refine ⟨.pointer (some ⟨C.bx p,n * jj.toNat,none⟩),?_,.ref p _ q1⟩;simp only [execOp,hg,hg2];rw [Sem.run_bind,run_indexAt_slice w t _ _ _ k jj (by rw [g2']; exact g1),if_pos ⟨h0.1,by omega⟩,g2',za9 hn];simp only [Result.andThen,zav];rw [Nat.mul_comm,Nat.zero_add]; rfl
          ·cases h
     ·cases h
    ·cases ht
   ·cases ht
  ·cases ht
 case index t x i =>
  split at ht
  ·rename_i hs
   split at ht
   ·rename_i y j h2 h3
    simp only [sI] at ht; subst ht
    have hr:=hρ x y h2;have hr2:=hρ i j h3;simp only [qf] at h
    split at h
    ·rename_i s k jj hy hj
     rw [hy] at hr; rw [hj] at hr2
     generalize hg:ρ x = g at hr;generalize hg2:ρ i = g2 at hr2
     cases hr2 with
     | d _ _ hv2 => cases hv2 with
      | v _ o2 => cases hr with
       | d _ _ hv => cases hv with
        | v _ o1 =>
         split at h
         ·rename_i h0
          cases hb:s.data.toList[jj.toNat]? with
          | none => rw [hb] at h; cases h
          | some b =>
           rw [hb] at h; simp only [Option.map_some,sI] at h; subst h
           have hlt:jj.toNat < s.data.toList.length:=by
            rcases Nat.lt_or_ge jj.toNat s.data.toList.length with hh | hh
            ·exact hh
            ·simp [getElem?_eq_none hh] at hb
           have hb':s[jj.toNat]? = some b:=by
            rw [getElem?_eq_getElem hlt] at hb;have hsz:jj.toNat < s.size:=by rw [<- show s.data.toList.length = s.size from Array.length_toList]; exact hlt
            rw [getElem?_pos s jj.toNat hsz];simp only [sI] at hb ⊢;rw [<- hb]; rfl
           refine ⟨_,?_,.d _ _ (.v _ rfl)⟩;simp [execOp,hg,hg2,Instr.index,asIntOf,run_underlying (zb8 hs),h0,hb']
         ·cases h
    ·cases h
   ·cases ht
  ·cases ht
 case extract x i =>
  cases hx:trX x with
  | none => rw [hx] at ht; cases ht
  | some y =>
   rw [hx] at ht; simp only [Option.map_some,sI] at ht; subst ht
   have hr:=hρ x y hx;simp only [qf] at h
   split at h
   ·rename_i vs hy
    rw [hy] at hr;generalize hg:ρ x = g at hr
    cases hr with
    | tup _ us hl hh =>
     have hi:i < vs.length:=by
      rcases Nat.lt_or_ge i vs.length with h' | h'
      ·exact h'
      ·simp [getElem?_eq_none h'] at h
     have hi2:i < us.length:=by omega
     refine ⟨us[i],by simp [execOp,hg,Instr.extract,hi2],hh i v _ h (getElem?_eq_getElem hi2)⟩
   ·cases h
 case call c =>
  obtain ⟨callee,args,argTypes⟩:=c;simp only at ht
  split at ht
  ·cases hx:trXs args.toList with
   | none => rw [hx] at ht; cases ht
   | some xs => rw [hx] at ht; simp only [Option.map_some,sI] at ht; subst ht; simp [qf] at h
  ·cases hx:trXs args.toList with
   | none => rw [hx] at ht; cases ht
   | some xs => rw [hx] at ht; simp only [Option.map_some,sI] at ht; subst ht; simp [qf] at h
  ·split at ht
   ·rename_i x t hargs htys
    have ea:args = #[x]:=by rw [<- Array.toArray_toList (xs:=args),hargs]
    have et:argTypes = #[t]:=by rw [<- Array.toArray_toList (xs:=argTypes),htys]
    subst ea; subst et
    split at ht
    ·rename_i hty
     cases hx:trX x with
     | none => rw [hx] at ht; cases ht
     | some y =>
      rw [hx] at ht; simp only [Option.map_some,sI] at ht; subst ht
      have hr:=hρ x y hx;simp only [qf] at h
      split at h
      ·rename_i s hy
       simp only [sI] at h; subst h
       rw [hy] at hr;generalize hg:ρ x = g at hr
       cases hr with
       | d _ _ hv => cases hv with
        | v _ o1 =>
         refine ⟨.int .i64 s.data.toList.length,?_,.d _ _ (.v _ rfl)⟩
         have:s.data.toList.length = s.size:=Array.length_toList
         rw [this];simp [execOp,resolve,invoke,builtin,Builtin.len_,run_underlying (zb8 hty),hg,goInt]
      ·cases h
    ·split at ht
     ·rename_i hty
      obtain ⟨e',he⟩:=Option.isSome_iff_exists.1 hty
      cases hx:trX x with
      | none => rw [hx] at ht; cases ht
      | some y =>
       rw [hx] at ht; simp only [Option.map_some,sI] at ht; subst ht
       have hr:=hρ x y hx;simp only [qf] at h
       split at h
       ·rename_i tk es hy
        simp only [sI] at h; subst h
        rw [hy] at hr;generalize hg:ρ x = g at hr
        cases hr with
        | d _ _ hv =>
         obtain ⟨a,cp,rfl,_⟩:=sl_form hv;refine ⟨.int .i64 es.length,?_,.d _ _ (.v _ rfl)⟩;simp [execOp,resolve,invoke,builtin,Builtin.len_,run_underlying (zaR he).1,hg,goInt]
       ·rename_i p len cap hy
        simp only [sI] at h; subst h
        rw [hy] at hr;generalize hg:ρ x = g at hr
        cases hr with
        | d _ _ hv => cases hv with
         | row _ _ _ q1 q2 q3 =>
          refine ⟨.int .i64 len,?_,.d _ _ (.v _ rfl)⟩;simp [execOp,resolve,invoke,builtin,Builtin.len_,run_underlying (zaR he).1,hg,goInt]
       ·cases h
     ·cases ht
   ·cases ht
  ·split at ht
   ·rename_i x y hargs
    have ea:args = #[x,y]:=by rw [<- Array.toArray_toList (xs:=args),hargs]
    subst ea
    split at ht
    ·rename_i x' y' hx hy
     simp only [sI] at ht; subst ht
     have hrx:=hρ x x' hx;have hry:=hρ y y' hy;simp only [qf] at h
     split at h
     ·rename_i k a k' b h1 h2
      simp only [sI] at h; subst h
      rw [h1] at hrx; rw [h2] at hry
      generalize hgx:ρ x = gx at hrx;generalize hgy:ρ y = gy at hry
      cases hrx with
      | d _ _ hv1 => cases hry with
       | d _ _ hv2 => cases hv1 with
        | v _ o1 => cases hv2 with
         | v _ o2 =>
          refine ⟨.int k (if false then (if b > a then b else a) else (if b < a then b else a)),?_,.d _ _ (.v _ rfl)⟩;simp [execOp,resolve,invoke,builtin,Builtin.min_,Builtin.min2,hgx,hgy]
     ·cases h
    ·cases ht
   ·cases ht
  ·split at ht
   ·rename_i x y hargs
    have ea:args = #[x,y]:=by rw [<- Array.toArray_toList (xs:=args),hargs]
    subst ea
    split at ht
    ·rename_i x' y' hx hy
     simp only [sI] at ht; subst ht
     have hrx:=hρ x x' hx;have hry:=hρ y y' hy;simp only [qf] at h
     split at h
     ·rename_i k a k' b h1 h2
      simp only [sI] at h; subst h
      rw [h1] at hrx; rw [h2] at hry
      generalize hgx:ρ x = gx at hrx;generalize hgy:ρ y = gy at hry
      cases hrx with
      | d _ _ hv1 => cases hry with
       | d _ _ hv2 => cases hv1 with
        | v _ o1 => cases hv2 with
         | v _ o2 =>
          refine ⟨.int k (if true then (if b > a then b else a) else (if b < a then b else a)),?_,.d _ _ (.v _ rfl)⟩;simp [execOp,resolve,invoke,builtin,Builtin.max_,Builtin.max2,hgx,hgy]
     ·cases h
    ·cases ht
   ·cases ht
  ·split at ht
   ·split at ht
    ·split at ht
     ·split at ht
      ·simp only [sI] at ht; subst ht; simp [qf] at h
      ·cases ht
     ·cases ht
    ·cases ht
   ·cases ht
  ·cases ht
end
end
section
section
variable {P:Program} {NG:Nat} {T:World -> Prop}
def Low (NG:Nat) (T:World -> Prop):Prop:=∀ w w':World,T w -> w.heap.size <= w'.heap.size -> (∀ k,k < NG -> w'.heap[k]? = w.heap[k]?) -> T w'
def Cx.box (C:Cx) (b:Nat):Cx:={ C with nb:=C.nb + 1,bx:=fun p => if p = C.nb then b else C.bx p }
theorem Cx.box_le (C:Cx) (b:Nat):CxLe C (C.box b) :=
 ⟨fun _ _ h => h,Nat.le_succ _,fun p hp => by simp only [Cx.box]; rw [if_neg (by omega)],lR,fun _ _ => ⟨rfl,rfl,rfl,rfl⟩⟩
theorem zeQ {C:Cx} {w:World} (hf:∀ b o,C.F b o -> b < w.heap.size) (o:Obj):Fix C w (w.alloc o):=.of (fun b k h => World.cell?_of_block (a:=⟨b,k,none⟩) (heap_alloc_old w o (hf b k h))) fun _k hlt => heap_alloc_old w o hlt
theorem Inv.lt {C:Cx} {bx:LP PC} {live:Nat -> Prop} {w:World} (h:Inv NG T C bx live w) {p:Nat} (hp:p < bx.length):C.bx p < w.heap.size:=by
 obtain ⟨vs,e,hh,_⟩:=h.box p _ (getElem?_eq_getElem hp); exact zao hh
theorem Inv.newBox (hL:Low NG T) {C:Cx} {bx:LP PC} {live:Nat -> Prop} {w:World} (h:Inv NG T C bx live w) {cs:List PC} {vs:List Value} (hc:RpL C w cs vs) (e:TypeId) :
  Inv NG T (C.box w.heap.size) (bx ++ [cs]) live (w.alloc (.cells vs.toArray e)) /\ Fix C w (w.alloc (.cells vs.toArray e)):=by
 have hfix:=zeQ h.fin (.cells vs.toArray e);have hle:=Cx.box_le C w.heap.size;have hold:∀ k,k < w.heap.size -> (w.alloc (.cells vs.toArray e)).heap[k]? = w.heap[k]?:=fun k hk => heap_alloc_old w _ hk
 have hnb:=h.nb;have hb0:∀ p,p < bx.length -> (C.box w.heap.size).bx p = C.bx p:=fun p hp => hle.bx p (by omega)
 have hb1:(C.box w.heap.size).bx bx.length = w.heap.size:=by simp [Cx.box,hnb]
 refine ⟨⟨by simp [Cx.box,hnb],?_,?_,?_,?_,?_,h.tinj,?_,?_,?_⟩,hfix⟩
 ·intro p c hp
  by_cases hlt:p < bx.length
  ·rw [getElem?_append_left hlt] at hp
   obtain ⟨us,e',hh,hl⟩:=h.box p c hp;exact ⟨us,e',by rw [hb0 p hlt,hold _ (zao hh)]; exact hh,hl.frame hle hfix⟩
  ·have:p = bx.length:=by
    rcases Nat.lt_or_ge p (bx ++ [cs]).length with h' | h'
    ·simp at h'; omega
    ·simp [getElem?_eq_none h'] at hp
   subst this;simp at hp; subst hp
   exact ⟨vs,e,by rw [hb1]; exact zat w _,hc.frame hle hfix⟩
 ·intro p hp o hF
  by_cases hlt:p < bx.length
  ·rw [hb0 p hlt] at hF; exact h.boxF p hlt o hF
  ·have:p = bx.length:=by simp at hp; omega
   subst this;rw [hb1] at hF; have:=h.fin _ _ hF; omega
 ·intro p hp
  by_cases hlt:p < bx.length
  ·rw [hb0 p hlt]; exact h.boxG p hlt
  ·have:p = bx.length:=by simp at hp; omega
   subst this; rw [hb1]; exact h.ng
 ·intro p q hp hq he
  simp at hp hq;by_cases h1:p < bx.length <;> by_cases h2:q < bx.length
  ·rw [hb0 p h1,hb0 q h2] at he; exact h.inj p q h1 h2 he
  ·have:q = bx.length:=by omega
   subst this; rw [hb0 p h1,hb1] at he; have:=h.lt h1; omega
  ·have:p = bx.length:=by omega
   subst this; rw [hb0 q h2,hb1] at he; have:=h.lt h2; omega
  ·omega
 ·intro t ht
  obtain ⟨a1,a2,a3⟩:=h.tok t ht;refine ⟨a1,a2,a3.imp id ?_⟩;rintro ⟨b,cur,e',c1,c2,c3,c4,c5,c6,c7,cz,c8,c9⟩;refine ⟨b,cur,e',c1,c2,by rw [hold _ (zao c3)]; exact c3,c4,c5,c6,c7,cz,c8,fun p hp he => ?_⟩;by_cases hlt:p < bx.length
  ·rw [hb0 p hlt] at he; exact c9 p hlt he
  ·have:p = bx.length:=by simp at hp; omega
   subst this; rw [hb1] at he; have:=zao c3; omega
 ·intro b o hF; have:=h.fin b o hF; simp; omega
 ·have:=h.ng; simp; omega
 ·exact hL w _ h.t (by simp) (fun k hk => hold k (by have:=h.ng; omega))
def Cx.tok (C:Cx) (g:Option Nat) (cap len n:Nat):Cx :=
 { C with F:=fun b o => C.F b o \/ (g = some b /\ o < len * n),nt:=C.nt + 1,tk:=fun t => if t = C.nt then g else C.tk t,cp:=fun t => if t = C.nt then cap else C.cp t,tl:=fun t => if t = C.nt then len else C.tl t,tn:=fun t => if t = C.nt then n else C.tn t }
theorem Cx.tok_le (C:Cx) (g:Option Nat) (cap len n:Nat):CxLe C (C.tok g cap len n) :=
 ⟨fun _ _ h => .inl h,lR,fun _ _ => rfl,Nat.le_succ _,fun t ht => by
  simp only [Cx.tok]; rw [if_neg (by omega),if_neg (by omega),if_neg (by omega),if_neg (by omega)]; exact ⟨rfl,rfl,rfl,rfl⟩⟩
theorem Cx.tok_new (C:Cx) (g:Option Nat) (cap len n:Nat):(C.tok g cap len n).tk C.nt = g /\ (C.tok g cap len n).cp C.nt = cap /\ (C.tok g cap len n).tl C.nt = len /\ (C.tok g cap len n).tn C.nt = n:=by simp [Cx.tok]
theorem Inv.newTok (hL:Low NG T) {C:Cx} {bx:LP PC} {live:List Nat} {w w':World} (h:Inv NG T C bx (· ∈ live) w) (h2:2 <= C.nt) (t:Nat) (g:Option Nat) (cap len n:Nat)
  (hsize:w.heap.size <= w'.heap.size) (other:∀ k,k < w.heap.size -> g ≠ some k -> w'.heap[k]? = w.heap[k]?)
  (hnone:g = none -> len = 0)
  (hg:∀ b,g = some b -> (w.heap.size <= b \/ (t ∈ live /\ C.tk t = some b)) /\ (∃ cur e,w'.heap[b]? = some (.cells cur e (0,0)) /\ cur.size = cap * n) /\ len <= cap /\ cap <= maxLen /\ 0 < n /\ (len = 0 -> cap = 0))
  (hfix:∀ b,g = some b -> b < w.heap.size -> ∀ o,C.F b o -> w'.cell? ⟨b,o,none⟩ = w.cell? ⟨b,o,none⟩)
  (hF:∀ b,g = some b -> ∀ o,C.F b o -> o < len * n)
  (hty:∀ b,g = some b -> ∀ (T:TypeId) (cs:Array Value) (fz:Nat × Nat),w.heap[b]? = some (.cells cs T fz) -> ∃ cs' fz',w'.heap[b]? = some (.cells cs' T fz')) :
  Inv NG T (C.tok g cap len n) bx (· ∈ C.nt :: live.filter (· != t)) w' /\ Fix C w w':=by
 have hle:=Cx.tok_le C g cap len n;obtain ⟨n1,n2,n3,n4⟩:=Cx.tok_new C g cap len n
 have hFix1:∀ b o,C.F b o -> w'.cell? ⟨b,o,none⟩ = w.cell? ⟨b,o,none⟩:=by
  intro b o hFb;by_cases hb:g = some b
  ·exact hfix b hb (h.fin b o hFb) o hFb
  ·exact World.cell?_of_block (a:=⟨b,o,none⟩) (other b (h.fin b o hFb) hb)
 have hgb:∀ b,g = some b -> ∀ p,p < bx.length -> C.bx p ≠ b:=by
  intro b hb p hp he
  rcases (hg b hb).1 with h' | ⟨h',h''⟩
  ·have:=h.lt hp; omega
  ·obtain ⟨_,_,⟨k,_⟩ | ⟨b',cur,e',c1,_,_,_,_,_,_,_,_,c9⟩⟩:=h.tok t h'
   ·rw [k] at h''; cases h''
   ·rw [h''] at c1; simp only [sI] at c1; subst c1; exact c9 p hp he
 have hFix:Fix C w w':=⟨hFix1,fun k T cs fz hh => by
  by_cases hb:g = some k
  ·exact hty k hb T cs fz hh
  ·exact ⟨cs,fz,(other k (zao hh) hb).trans hh⟩⟩
 have hgs:∀ s b,s ∈ live -> s ≠ t -> C.tk s = some b -> g ≠ some b:=by
  intro s b hs hne hb hgb'
  rcases (hg b hgb').1 with h' | ⟨h',h''⟩
  ·obtain ⟨_,_,⟨k,_⟩ | ⟨b',cur,e',c1,_,c3,_⟩⟩:=h.tok s hs
   ·rw [k] at hb; cases hb
   ·rw [hb] at c1; simp only [sI] at c1; subst c1; have:=zao c3; omega
  ·exact hne (h.tinj s t b hs h' hb h'')
 have hlow:∀ k,k < NG -> w'.heap[k]? = w.heap[k]?:=by
  intro k hk;refine other k (by have:=h.ng; omega) fun hgk => ?_
  rcases (hg k hgk).1 with h' | ⟨h',h''⟩
  ·have:=h.ng; omega
  ·obtain ⟨_,_,⟨k',_⟩ | ⟨b',cur,e',c1,c2,_⟩⟩:=h.tok t h'
   ·rw [k'] at h''; cases h''
   ·rw [h''] at c1; simp only [sI] at c1; subst c1; omega
 have hin:∀ s,s ∈ C.nt :: live.filter (· != t) -> s = C.nt \/ (s ∈ live /\ s ≠ t):=by
  intro s hs;simp only [mem_cons,mem_filter,bne_iff_ne,ne_eq] at hs;exact hs
 have htk:∀ s,s ∈ live -> (C.tok g cap len n).tk s = C.tk s /\ (C.tok g cap len n).cp s = C.cp s /\ (C.tok g cap len n).tl s = C.tl s /\ (C.tok g cap len n).tn s = C.tn s:=fun s hs => hle.tk s (h.tok s hs).2.1
 refine ⟨⟨h.nb,?_,?_,h.boxG,h.inj,?_,?_,?_,?_,?_⟩,hFix⟩
 ·intro p cs hp
  have hlt:p < bx.length:=by
   rcases Nat.lt_or_ge p bx.length with h' | h'
   ·exact h'
   ·simp [getElem?_eq_none h'] at hp
  obtain ⟨us,e',hh,hl⟩:=h.box p cs hp;exact ⟨us,e',by show w'.heap[C.bx p]? = _; rw [other _ (zao hh) (fun hb => hgb _ hb p hlt rfl)]; exact hh,hl.frame hle hFix⟩
 ·rintro p hp o (hFp | ⟨hgp,_⟩)
  ·exact h.boxF p hp o hFp
  ·exact hgb _ hgp p hp rfl
 ·intro s hs
  rcases hin s hs with rfl | ⟨hs,hne⟩
  ·refine ⟨h2,by simp [Cx.tok],?_⟩
   rw [n1,n2,n3,n4]
   cases g with
   | none => exact .inl ⟨rfl,hnone rfl⟩
   | some b =>
    obtain ⟨q1,⟨cur,e',q2,q3⟩,q4,q5,q6,q7⟩:=hg b rfl;refine .inr ⟨b,cur,e',rfl,?_,q2,q3,q4,q5,q6,q7,?_,hgb b rfl⟩
    ·rcases q1 with h' | ⟨h',h''⟩
     ·have:=h.ng; omega
     ·obtain ⟨_,_,⟨k',_⟩ | ⟨b',cur,e',c1,c2,_⟩⟩:=h.tok t h'
      ·rw [k'] at h''; cases h''
      ·rw [h''] at c1; simp only [sI] at c1; subst c1; exact c2
    ·rintro o (ho | ⟨_,ho⟩)
     ·exact hF b rfl o ho
     ·exact ho
  ·obtain ⟨a1,a2,a3⟩:=h.tok s hs
   obtain ⟨e1,e2,e3,e4⟩:=htk s hs;refine ⟨a1,by show s < C.nt + 1; omega,?_⟩;rw [e1,e2,e3,e4];refine a3.imp id ?_;rintro ⟨b,cur,e',c1,c2,c3,c4,c5,c6,c7,cz,c8,c9⟩;have hgb':=hgs s b hs hne c1;refine ⟨b,cur,e',c1,c2,by rw [other b (zao c3) hgb']; exact c3,c4,c5,c6,c7,cz,?_,c9⟩;rintro o (ho | ⟨ho,_⟩)
   ·exact c8 o ho
   ·exact absurd ho hgb'
 ·intro s s' b hs hs' hb hb'
  rcases hin s hs with rfl | ⟨hs,hne⟩ <;> rcases hin s' hs' with rfl | ⟨hs',hne'⟩
  ·rfl
  ·rw [n1] at hb; rw [(htk s' hs').1] at hb'; exact absurd hb (hgs s' b hs' hne' hb')
  ·rw [n1] at hb'; rw [(htk s hs).1] at hb; exact absurd hb' (hgs s b hs hne hb)
  ·rw [(htk s hs).1] at hb; rw [(htk s' hs').1] at hb'; exact h.tinj s s' b hs hs' hb hb'
 ·rintro b o (ho | ⟨ho,_⟩)
  ·have:=h.fin b o ho; omega
  ·obtain ⟨_,⟨cur,e',q2,_⟩,_⟩:=hg b ho; exact zao q2
 ·have:=h.ng; omega
 ·exact hL w w' h.t hsize hlow
theorem Inv.write (hL:Low NG T) {C:Cx} {bx:LP PC} {live:Nat -> Prop} {w w':World} (h:Inv NG T C bx live w) {p:Nat} (hp:p < bx.length) {cs:List PC} {us:List Value} {e:TypeId}
  (hw:w'.heap[C.bx p]? = some (.cells us.toArray e (0,0))) (hl:RpL C w cs us) (he:∀ T cs0,w.heap[C.bx p]? = some (.cells cs0 T (0,0)) -> e = T) (hsize:w.heap.size = w'.heap.size) (other:∀ k,k ≠ C.bx p -> w'.heap[k]? = w.heap[k]?) :
  Inv NG T C (bx.set p cs) live w' /\ Fix C w w':=by
 have hFix:Fix C w w':=⟨fun b o hF => World.cell?_of_block (a:=⟨b,o,none⟩) (other b fun he => h.boxF p hp o (he ▸ hF)),fun q T cs0 fz hh => by
  by_cases hqp:q = C.bx p
  ·subst hqp
   obtain ⟨vs0,e0,h0,_⟩:=h.box p _ (getElem?_eq_getElem hp);rw [h0] at hh;simp only [sI,Obj.cells.injEq] at hh;obtain ⟨_,rfl,_⟩:=hh
   have:=he _ _ h0; subst this
   exact ⟨_,_,hw⟩
  ·exact ⟨cs0,fz,(other _ hqp).trans hh⟩⟩
 refine ⟨⟨by rw [length_set]; exact h.nb,?_,by rw [length_set]; exact h.boxF,by rw [length_set]; exact h.boxG,by rw [length_set]; exact h.inj,?_,h.tinj,by rw [<- hsize]; exact h.fin,by rw [<- hsize]; exact h.ng,?_⟩,hFix⟩
 ·intro q c hq
  by_cases hqp:q = p
  ·subst hqp
   rw [getElem?_set_self hp] at hq;simp only [sI] at hq; subst hq
   exact ⟨us,e,hw,hl.frame (CxLe.refl C) hFix⟩
  ·rw [getElem?_set_ne (by omega)] at hq
   have hlt:q < bx.length:=by
    rcases Nat.lt_or_ge q bx.length with h' | h'
    ·exact h'
    ·simp [getElem?_eq_none h'] at hq
   obtain ⟨vs,e',hh,hl'⟩:=h.box q c hq;exact ⟨vs,e',by rw [other _ (fun he => hqp (h.inj q p hlt hp he))]; exact hh,hl'.frame (CxLe.refl C) hFix⟩
 ·intro t ht
  obtain ⟨a1,a2,a3⟩:=h.tok t ht;refine ⟨a1,a2,a3.imp id ?_⟩;rintro ⟨b,cur,e',c1,c2,c3,c4,c5,c6,c7,cz,c8,c9⟩;exact ⟨b,cur,e',c1,c2,by rw [other b (fun he => c9 p hp he.symm)]; exact c3,c4,c5,c6,c7,cz,c8,by rw [length_set]; exact c9⟩
 ·exact hL w w' h.t (by omega) fun k hk => other k fun he => by have:=h.boxG p hp; omega
end
end
section
section
variable {P:Program} {NG:Nat} {T:World -> Prop}
theorem zaI {n:Nat}:∀ {es:LP PC},(∀ e ∈ es,e.length = n) -> es.flatten.length = n * es.length
 | [],_ => by simp
 | e :: es,h => by
  rw [flatten_cons,length_append,zaI (fun x hx => h x (by simp [hx])),h e (by simp),length_cons,Nat.mul_succ]; omega
theorem zeg {n:Nat}:∀ {es:LP PC},(∀ e ∈ es,e.length = n) -> ∀ {i j:Nat} {e:List PC} {y:PC},es[i]? = some e -> e[j]? = some y -> es.flatten[n * i + j]? = some y
 | [],_,i,j,e,y,hi,_ => by simp at hi
 | e0 :: es,h,i,j,e,y,hi,hj => by
  have h0:=h e0 (by simp);rw [flatten_cons]
  match i with
  | 0 =>
   simp at hi; subst hi
   rw [Nat.mul_zero,Nat.zero_add,getElem?_append_left]
   ·exact hj
   ·rcases Nat.lt_or_ge j e0.length with h' | h'
    ·exact h'
    ·simp [getElem?_eq_none h'] at hj
  | i + 1 =>
   rw [getElem?_append_right (by rw [h0,Nat.mul_succ]; omega),h0,show n * (i + 1) + j - n = n * i + j by rw [Nat.mul_succ]; omega];exact zeg (fun x hx => h x (by simp [hx])) (by simpa using hi) hj
theorem RowAt.flat {C:Cx} {w:World} {b o n:Nat} {es:LP PC} {u:Nat -> Nat -> Value} (h:RowAt C w b o n es u) (hr:∀ (i j:Nat) (e:List PC) (y:PC),es[i]? = some e -> e[j]? = some y -> RpC C w y (u i j)) :
  ∃ fl:List Value,fl.length = n * es.length /\ RpL C w es.flatten fl /\ ∀ (q:Nat) (y:Value),fl[q]? = some y -> w.cell? ⟨b,o + q,none⟩ = some y:=by
 have hdm:∀ q,q < n * es.length -> q / n < es.length /\ q % n < n:=fun q hq => ⟨Nat.div_lt_of_lt_mul hq,Nat.mod_lt _ h.pos⟩
 refine ⟨(range (n * es.length)).map fun q => u (q / n) (q % n),by simp,⟨by simp [zaI h.wid],fun j c y h1 h2 => ?_⟩,fun q y hq => ?_⟩
 ·have hj:j < n * es.length:=by
   rcases Nat.lt_or_ge j (n * es.length) with h' | h'
   ·exact h'
   ·rw [getElem?_eq_none (by simpa using h')] at h2; cases h2
  rw [getElem?_map,getElem?_range hj] at h2;simp only [Option.map_some,sI] at h2; subst h2
  obtain ⟨d1,d2⟩:=hdm j hj;have he:es[j / n]? = some es[j / n]:=getElem?_eq_getElem d1;have hl:=h.wid _ (getElem_mem d1);have hy:es[j / n][j % n]? = some (es[j / n][j % n]'(by omega)):=getElem?_eq_getElem _;have hk:=zeg h.wid he hy;rw [Nat.div_add_mod] at hk;rw [hk] at h1; simp only [sI] at h1; subst h1
  exact hr _ _ _ _ he hy
 ·have hj:q < n * es.length:=by
   rcases Nat.lt_or_ge q (n * es.length) with h' | h'
   ·exact h'
   ·rw [getElem?_eq_none (by simpa using h')] at hq; cases hq
  rw [getElem?_map,getElem?_range hj] at hq;simp only [Option.map_some,sI] at hq; subst hq
  obtain ⟨d1,d2⟩:=hdm q hj
  have:=h.cell _ _ d1 d2
  rw [Nat.div_add_mod] at this; exact this
theorem RowAt.of {C C':Cx} {w w':World} {b o n:Nat} {es:LP PC} {fl:List Value} (hn:0 < n) (hw:∀ e ∈ es,e.length = n) (hr:RpL C w es.flatten fl)
  (hc:∀ (q:Nat) (y:Value),fl[q]? = some y -> w'.cell? ⟨b,o + q,none⟩ = some y) (hF:∀ q,q < n * es.length -> C'.F b (o + q)) :
  RowAt C' w' b o n es (fun i j => fl.getD (n * i + j) undef) /\ ∀ (i j:Nat) (e:List PC) (y:PC),es[i]? = some e -> e[j]? = some y -> RpC C w y (fl.getD (n * i + j) undef):=by
 have hfl:fl.length = n * es.length:=by rw [hr.1,zaI hw]
 have hlt:∀ i j,i < es.length -> j < n -> n * i + j < n * es.length:=fun i j hi hj => by
  have:=Nat.mul_le_mul_left n (Nat.succ_le_of_lt hi); rw [Nat.mul_succ] at this; omega
 refine ⟨⟨hn,hw,fun i j hi hj => ?_,fun i j hi hj => hF _ (hlt i j hi hj)⟩,fun i j e y he hy => ?_⟩
 ·have hq:=hlt i j hi hj
  refine hc _ _ ?_;rw [getD_eq_getElem?_getD,getElem?_eq_getElem (by omega)]; rfl
 ·have hi:i < es.length:=by
   rcases Nat.lt_or_ge i es.length with h' | h'
   ·exact h'
   ·simp [getElem?_eq_none h'] at he
  have hj:j < n:=by
   rw [<- hw e (mem_of_getElem? he)]
   rcases Nat.lt_or_ge j e.length with h' | h'
   ·exact h'
   ·simp [getElem?_eq_none h'] at hy
  have hq:=hlt i j hi hj;refine hr.2 _ _ _ (zeg hw he hy) ?_;rw [getD_eq_getElem?_getD,getElem?_eq_getElem (by omega)]; rfl
theorem Ext.step {C0 C C':Cx} {w0 w w':World} {nb nb':Nat} {live live':Nat -> Prop} (h:Ext C0 w0 C nb live w) (hC:CxLe C C') (hf:Fix C w w') (h1:w'.os = w.os) (h2:w'.tape = w.tape) (h3:w'.output = w.output) (h4:w.heap.size <= w'.heap.size)
  (hb:∀ k,k < w0.heap.size -> (∀ p,p < C0.nb -> C0.bx p ≠ k) -> (∀ t,C0.old t -> C0.tk t ≠ some k) -> w'.heap[k]? = w.heap[k]?) (hF:∀ b o,C'.F b o -> C.F b o \/ w0.heap.size <= b \/ ∃ s,C0.old s /\ C0.tk s = some b) (hT:∀ t b,live' t -> C'.tk t = some b -> w0.heap.size <= b \/ ∃ s,C0.old s /\ C0.tk s = some b) (hB:∀ p,C0.nb <= p -> p < nb' -> w0.heap.size <= C'.bx p):Ext C0 w0 C' nb' live' w' :=
 ⟨h1.trans h.os,h2.trans h.tape,h3.trans h.output,Nat.le_trans h.size h4,fun b o x => hC.F b o (h.F b o x),⟨fun b o x => (hf.1 b o (h.F b o x)).trans (h.fix.1 b o x),fun q T cs fz hh => by
  obtain ⟨cs1,fz1,h1'⟩:=h.fix.2 q T cs fz hh;exact hf.2 q T cs1 fz1 h1'⟩,fun k hk hp ho => (hb k hk hp ho).trans (h.block k hk hp ho),
  ⟨Nat.le_trans h.bx.1 hC.nb,fun p hp => (hC.bx p (Nat.lt_of_lt_of_le hp h.bx.1)).trans (h.bx.2 p hp)⟩,fun b o x => (hF b o x).elim (h.newF b o) .inr,hT,hB,⟨Nat.le_trans h.tk.1 hC.nt,fun t ht => by
  obtain ⟨a1,a2,a3,a4⟩:=h.tk.2 t ht;obtain ⟨b1,b2,b3,b4⟩:=hC.tk t (Nat.lt_of_lt_of_le ht h.tk.1);exact ⟨b1.trans a1,b2.trans a2,b3.trans a3,b4.trans a4⟩⟩⟩
theorem zeh {C:Cx} {w:World} {ρ:Operand -> Value} {e:X -> PV} (hρ:Ro C w ρ e) {n:Nat}:∀ {ps:List (Nat × Operand)} {xs:List X} {k:Nat} {es:LP PC} {vs:List Value},trLit k ps = some xs -> litP e n xs = some es -> vs.length = (k + xs.length) * n ->
  (∀ d ∈ es,d.length = n) /\ es.length = xs.length /\ ∃ fl,Instr.fill (fun i => some (i * n,n)) vs.toArray (ps.map fun p => (p.1,ρ p.2)) = some (vs.take (k * n) ++ fl).toArray /\ RpL C w es.flatten fl
 | [],xs,k,es,vs,h,hl,hv => by
  simp only [trLit,sI] at h; subst h
  simp only [litP,sI] at hl; subst hl
  refine ⟨by simp,rfl,[],?_,.nil⟩;simp only [map_nil,Instr.fill,append_nil]
  rw [take_of_length_le (by simp at hv; omega)]
 | (i,x) :: ps,xs,k,es,vs,h,hl,hv => by
  simp only [trLit] at h
  split at h
  ·rename_i y l h1 h2
   split at h
   ·rename_i hik
    subst hik;simp only [sI] at h; subst h
    simp only [litP] at hl
    split at hl
    ·rename_i cs l' h3 h4
     split at hl
     ·rename_i hcn
      simp only [sI] at hl; subst hl
      have hk:=zck (hρ x y h1) h3;have hsz:(ρ x).cells.size = n:=by rw [<- Array.length_toList,hk.1]; exact hcn
      simp only [length_cons] at hv
      have hin:i * n + n <= vs.length:=by
       rw [hv,<- Nat.succ_mul]; exact Nat.mul_le_mul_right _ (by omega)
      have hnl:((vs.take (i * n) ++ (ρ x).cells.toList ++ vs.drop (i * n + (ρ x).cells.size))).length = (i + 1 + l.length) * n:=by
       simp only [length_append,length_take,length_drop,Array.length_toList,hsz];rw [show i + 1 + l.length = i + (l.length + 1) by omega,<- hv]; omega
      obtain ⟨q1,q2,fl,q3,q4⟩:=zeh hρ h2 h4 hnl;refine ⟨by intro d hd; rcases mem_cons.1 hd with rfl | hd; exact hcn; exact q1 d hd,by simp [q2],(ρ x).cells.toList ++ fl,?_,?_⟩
      ·simp only [map_cons,Instr.fill]
       rw [if_neg (by simp only [Bool.or_eq_true,decide_eq_true_eq,size_toArray,not_or]; exact ⟨fun hh => hh hsz,by omega⟩)]
       have:=zbH (ρ x).cells.toList vs (i * n) 0 (by simp [hsz]; omega)
       simp only [Nat.add_zero,Array.length_toList] at this;rw [<- Array.foldl_toList,Array.toList_zipIdx];rw [(congrArg (fun z => Instr.fill (fun i => some (i * n,n)) z (ps.map fun p => (p.1,ρ p.2))) this),q3]
       congr 2
       rw [Nat.succ_mul,take_append_of_le_length (by simp [hsz]; omega),take_of_length_le (by simp [hsz]; omega),append_assoc]
      ·rw [flatten_cons]; exact hk.append q4
     ·cases hl
    ·cases hl
   ·cases h
  ·cases h
theorem zbe {e:TypeId} {n:Nat} (h:okElem P e n = true):∃ i z,P.info? e = some i /\ i.zero = some z /\ i.size = n /\ i.bytes <= 32768 /\ z.cells.size = n /\ 0 < n:=by
 unfold okElem at h
 split at h
 ·rename_i i hi
  split at h
  ·rename_i z hz
   simp only [Bool.and_eq_true,decide_eq_true_eq] at h;exact ⟨i,z,hi,hz,h.1.1.1.1,h.1.1.1.2,h.1.1.2,h.1.2⟩
  ·cases h
 ·cases h
theorem zd0 {e:TypeId} {n:Nat} (h:okElem P e n = true) {i:TypeInfo} {z:Value} (hi:P.info? e = some i) (hz:i.zero = some z):z.cells.toList.all (·.oneCell') = true:=by
 unfold okElem at h;rw [hi] at h;simp only [hz,Bool.and_eq_true] at h;exact h.2
theorem zdh {C:Cx} {w w':World} (hn2:2 <= C.nt) {b cap n:Nat} {es:LP PC} {fl:List Value} (hn:0 < n) (hw:∀ d ∈ es,d.length = n) (hr:RpL C w es.flatten fl) (hc:∀ (q:Nat) (y:Value),fl[q]? = some y -> w'.cell? ⟨b,q,none⟩ = some y)
  (hcap:es.length <= cap) (hm:cap <= maxLen) (hf:Fix C w w'):RpC (C.tok (some b) cap es.length n) w' (.sl C.nt es) (.slice (some ⟨b,0,none⟩) es.length cap):=by
 obtain ⟨n1,n2,n3,n4⟩:=Cx.tok_new C (some b) cap es.length n;obtain ⟨h1,h2⟩:=RowAt.of (C':=C.tok (some b) cap es.length n) (w':=w') (b:=b) (o:=0) hn hw hr (fun q y hq => by rw [Nat.zero_add]; exact hc q y hq) (fun q hq => .inr ⟨rfl,by rw [Nat.zero_add,Nat.mul_comm]; exact hq⟩)
 have:=RpC.own (C:=C.tok (some b) cap es.length n) (w:=w') C.nt es b _ hn2 (by simp [Cx.tok]) n1 n3.symm (by rw [n2]; exact hcap) (by rw [n2]; exact hm) (by rw [n4]; exact h1) (fun i j e y he hy => (h2 i j e y he hy).frame (Cx.tok_le C _ _ _ _) hf)
 rw [n2] at this; exact this
theorem zbF {w:World} (t ty e e':TypeId) (i:TypeInfo) (ht:P.underlying t = some (.slice e)) (hi:P.info? e = some i)
  (g sLen sCap:Nat) (cur:Array Value) (hg:w.heap[g]? = some (.cells cur e' (0,0)))
  (a:Addr) (m c:Nat) (news:List Value) (hl:news.length = m * i.size) (hnews:∀ j u,news[j]? = some u -> w.cell? (a.add j) = some u) (h1:∀ u ∈ news,u.oneCell' = true)
  (hroom:sLen + m <= sCap) (hfit:sLen * i.size + news.length <= cur.size) :
  (Builtin.append_ #[t,t] ty #[.slice (some ⟨g,0,none⟩) sLen sCap,.slice (some a) m c]).run P w =
   .ok (.slice (some ⟨g,0,none⟩) (sLen + m) sCap) (w.setRow g (cur.toList.take (sLen * i.size) ++ news ++ cur.toList.drop (sLen * i.size + news.length)).toArray):=by
 have hf:=run_firstCells_some (P:=P) w i.size m a m c news hl hnews;have hst:=run_storeCells_at P g (sLen * i.size) e' news 0 cur w hg (by simpa using hfit) h1;simp only [Nat.add_zero] at hst;simp [Builtin.append_,run_underlying ht,sizeOf,typeInfo,hi,Builtin.lenOf,hroom,hf,Addr.add_lit,hst]
theorem zeR {t t':TypeId} {e:TypeId} (he:elemT P t = some e) (he':(elemT P t').isSome = true) (ty:TypeId) (a b:Value) (w:World):(Builtin.append_ #[t,t'] ty #[a,b]).run P w = (Builtin.append_ #[t,t] ty #[a,b]).run P w:=by
 have und:∀ {t e:TypeId},elemT P t = some e -> P.underlying t = some (.slice e):=fun {t e} h => by
  unfold elemT at h
  split at h
  ·simp only [sI] at h; subst h; assumption
  ·cases h
 obtain ⟨e',he'⟩:=Option.isSome_iff_exists.1 he';have h1:=und he;have h2:=und he';unfold Builtin.append_
 cases a <;> simp [run_underlying h1,run_underlying h2]
theorem app_core (hL:Low NG T) {C:Cx} {bx:LP PC} {live:List Nat} {w:World} (hI:Inv NG T C bx (· ∈ live) w) (hn2:2 <= C.nt) {e:TypeId} {i:TypeInfo} {z:Value} (hzs:z.cells.size = i.size) (hn:0 < i.size)
  {tk:Nat} {es ds:LP PC} {x:Value} {fy:List Value} (hx:RpC C w (.sl tk es) x) (ht:tk = 1 \/ tk ∈ live) (hlen:es.length + ds.length <= 4294967296) (hds:∀ d ∈ ds,d.length = i.size) (hes:∀ d ∈ es,d.length = i.size)
  (hfy:fy.length = ds.length * i.size) (y2:RpL C w ds.flatten fy) (run:Value -> Result Value)
  (r0:ds = [] -> run (.slice none 0 0) = .ok (.slice none 0 0) w)
  (r1:ds = [] -> ∀ b n c,n <= c -> run (.slice (some ⟨b,0,none⟩) n c) = .ok (.slice (some ⟨b,0,none⟩) n c) w)
  (r2:0 < ds.length -> run (.slice none 0 0) = .ok (.slice (some ⟨w.heap.size,0,none⟩) ds.length (grownCap w ds.length 0 e)) (w.drew.alloc (.cells (fy.toArray ++ Builtin.zeroCells z.cells (grownCap w ds.length 0 e - ds.length)) e)))
  (r3:0 < ds.length -> ∀ (b n c:Nat) (cur:Array Value) (e':TypeId),w.heap[b]? = some (.cells cur e' (0,0)) -> n + ds.length <= c -> n * i.size + fy.length <= cur.size -> run (.slice (some ⟨b,0,none⟩) n c) = .ok (.slice (some ⟨b,0,none⟩) (n + ds.length) c) (w.setRow b (cur.toList.take (n * i.size) ++ fy ++ cur.toList.drop (n * i.size + fy.length)).toArray))
  (r4:0 < ds.length -> ∀ (b n c:Nat) (fl:List Value),fl.length = n * i.size -> (∀ j v,fl[j]? = some v -> w.cell? ((⟨b,0,none⟩:Addr).add j) = some v) -> c < n + ds.length -> n + ds.length <= 4294967296 ->
   run (.slice (some ⟨b,0,none⟩) n c) = .ok (.slice (some ⟨w.heap.size,0,none⟩) (n + ds.length) (grownCap w (n + ds.length) c e)) (w.drew.alloc (.cells (fl.toArray ++ fy.toArray ++ Builtin.zeroCells z.cells (grownCap w (n + ds.length) c e - (n + ds.length))) e))) :
  ∃ u w' g cap,run x = .ok u w' /\ Inv NG T (C.tok g cap (es ++ ds).length i.size) bx (· ∈ C.nt :: live.filter (· != tk)) w' /\ Fix C w w' /\ RpC (C.tok g cap (es ++ ds).length i.size) w' (.sl C.nt (es ++ ds)) u /\
   w'.os = w.os /\ w'.tape = w.tape /\ w'.output = w.output /\ w.heap.size <= w'.heap.size /\ (∀ k,k < w.heap.size -> g ≠ some k -> w'.heap[k]? = w.heap[k]?) /\ ∀ b,g = some b -> (w.heap.size <= b /\ ∃ cs,w'.heap[b]? = some (.cells cs e (0,0))) \/ (tk ∈ live /\ C.tk tk = some b):=by
 have hwid:∀ d ∈ es ++ ds,d.length = i.size:=fun d hd => (mem_append.1 hd).elim (hes d) (hds d)
 have hml:es.length + ds.length <= maxLen:=by unfold maxLen; omega
 -- the destination
 have hX:(x = .slice none 0 0 /\ es = []) \/ ∃ b u,x = .slice (some ⟨b,0,none⟩) es.length (C.cp tk) /\ tk ∈ live /\ C.tk tk = some b /\ es.length = C.tl tk /\ RowAt C w b 0 (C.tn tk) es u /\ ∀ (i j:Nat) (e:List PC) (y:PC),es[i]? = some e -> e[j]? = some y -> RpC C w y (u i j):=by
  cases hx with
  | emp a c => rcases ht with h | h; cases h; have:=(hI.tok 0 h).1; omega
  | nil => exact .inl ⟨rfl,rfl⟩
  | nilo t h2 _ hb => exact .inl ⟨rfl,rfl⟩
  | rd es b o n c u hl hc hr h => rcases ht with h | h; cases h; have:=(hI.tok 0 h).1; omega
  | own t es b u h2 _ hb hlen hl hc hr h => exact .inr ⟨b,u,rfl,ht.resolve_left (by omega),hb,hlen,hr,h⟩
 -- an own row,at the width of the type
 have hY:∀ b u,tk ∈ live -> C.tk tk = some b -> es.length = C.tl tk -> RowAt C w b 0 (C.tn tk) es u -> (∀ (i j:Nat) (e:List PC) (y:PC),es[i]? = some e -> e[j]? = some y -> RpC C w y (u i j)) ->
   ∃ cur e' fl,NG <= b /\ w.heap[b]? = some (.cells cur e' (0,0)) /\ cur.size = C.cp tk * i.size /\ es.length <= C.cp tk /\ C.cp tk <= maxLen /\ (es.length = 0 -> C.cp tk = 0) /\ (∀ o,C.F b o -> o < es.length * i.size) /\ fl.length = es.length * i.size /\ RpL C w es.flatten fl /\ cur.toList.take (es.length * i.size) = fl:=by
  intro b u hlv htk htl hr hcell;obtain ⟨_,_,⟨k,_⟩ | ⟨b',cur,e',c1,c2,c3,c4,c5,c6,c7,cz,c8,c9⟩⟩:=hI.tok tk hlv
  ·rw [htk] at k; cases k
  ·rw [htk] at c1; simp only [sI] at c1; subst c1
   obtain ⟨fl,f1,f2,f3⟩:=hr.flat hcell;rw [<- htl] at c5 cz c8;by_cases h0:es = []
   ·subst h0
    have hcp:=cz rfl;rw [hcp,Nat.zero_mul] at c4;refine ⟨cur,e',[],c2,c3,by rw [hcp,Nat.zero_mul]; exact c4,c5,c6,cz,fun o ho => by have:=c8 o ho; simp at this,by simp,.nil,by simp⟩
   ·have hwn:C.tn tk = i.size:=by
     obtain ⟨d,hd⟩:=exists_mem_of_ne_nil es h0;rw [<- hr.wid d hd,hes d hd]
    rw [hwn] at c4 c8 f1;refine ⟨cur,e',fl,c2,c3,c4,c5,c6,cz,c8,by rw [f1,Nat.mul_comm],f2,?_⟩;have hcl:cur.toList.length = cur.size:=Array.length_toList;have hle:es.length * i.size <= cur.toList.length:=by rw [hcl,c4]; exact Nat.mul_le_mul_right _ c5
    apply ext_getElem?
    intro q;by_cases hq:q < es.length * i.size
    ·have hq':q < fl.length:=by rw [f1,Nat.mul_comm]; exact hq
     have h3:=f3 q _ (getElem?_eq_getElem hq');rw [Nat.zero_add,zae c3] at h3;rw [getElem?_take,if_pos hq,getElem?_eq_getElem hq',<- h3]; simp
    ·rw [getElem?_eq_none (l:=cur.toList.take _) (by rw [length_take]; omega),getElem?_eq_none (by rw [f1,Nat.mul_comm]; omega)]
 by_cases hd0:ds = []
 ·subst hd0
  rw [append_nil]
  rcases hX with ⟨rfl,rfl⟩ | ⟨b,u,rfl,hlv,htk,htl,hr,hcell⟩
  ·obtain ⟨hI',hF'⟩:=hI.newTok hL hn2 tk none 0 0 i.size lR (fun _ _ _ => rfl) (fun _ => rfl) (fun b hb => by cases hb) (fun b hb => by cases hb) (fun b hb => by cases hb) (fun b hb => by cases hb)
   exact ⟨.slice none 0 0,w,none,0,r0 rfl,hI',hF',.nilo _ hn2 (by simp [Cx.tok]) (Cx.tok_new C _ _ _ _).1,rfl,rfl,rfl,lR,fun _ _ _ => rfl,fun b hb => by cases hb⟩
  ·obtain ⟨cur,e',fl,g1,g2,g3,g4,g5,g6,g7,g8,g9,g10⟩:=hY b u hlv htk htl hr hcell
   obtain ⟨hI',hF'⟩:=hI.newTok hL hn2 tk (some b) (C.cp tk) es.length i.size lR (fun _ _ _ => rfl) (fun h => by cases h)
    (fun b' hb => by simp only [sI] at hb; subst hb; exact ⟨.inr ⟨hlv,htk⟩,⟨cur,e',g2,g3⟩,g4,g5,hn,g6⟩) (fun _ _ _ _ _ => rfl) (fun b' hb => by simp only [sI] at hb; subst hb; exact g7) (fun _ _ _ cs fz h => ⟨cs,fz,h⟩)
   refine ⟨_,w,some b,C.cp tk,r1 rfl _ _ _ g4,hI',hF',zdh hn2 hn hes g9 (fun q y hq => ?_) g4 g5 hF',rfl,rfl,rfl,lR,fun _ _ _ => rfl,fun b' hb => by simp only [sI] at hb; subst hb; exact .inr ⟨hlv,htk⟩⟩
   ·rw [zae g2,<- Array.getElem?_toList]
    rw [<- g10,getElem?_take] at hq
    split at hq
    ·exact hq
    ·cases hq
 ·-- something is appended
  have hm0:0 < ds.length:=by
   rcases Nat.eq_zero_or_pos ds.length with h | h
   ·exact absurd (eq_nil_of_length_eq_zero h) hd0
   ·exact h
  have hll:(es ++ ds).length = es.length + ds.length:=length_append;have one2:=y2.one
  -- a new block
  have grown:∀ (fl:List Value) (old:Nat),fl.length = es.length * i.size -> RpL C w es.flatten fl -> old < es.length + ds.length -> ∀ u w',u = .slice (some ⟨w.heap.size,0,none⟩) (es.length + ds.length) (grownCap w (es.length + ds.length) old e) ->
    w' = w.drew.alloc (.cells (fl.toArray ++ fy.toArray ++ Builtin.zeroCells z.cells (grownCap w (es.length + ds.length) old e - (es.length + ds.length))) e) ->
    Inv NG T (C.tok (some w.heap.size) (grownCap w (es.length + ds.length) old e) (es ++ ds).length i.size) bx (· ∈ C.nt :: live.filter (· != tk)) w' /\ Fix C w w' /\ RpC (C.tok (some w.heap.size) (grownCap w (es.length + ds.length) old e) (es ++ ds).length i.size) w' (.sl C.nt (es ++ ds)) u /\
     w'.os = w.os /\ w'.tape = w.tape /\ w'.output = w.output /\ w.heap.size <= w'.heap.size /\ (∀ k,k < w.heap.size -> some w.heap.size ≠ some k -> w'.heap[k]? = w.heap[k]?) /\ ∀ b,some w.heap.size = some b -> (w.heap.size <= b /\ ∃ cs,w'.heap[b]? = some (.cells cs e (0,0))) \/ (tk ∈ live /\ C.tk tk = some b):=by
   intro fl old hfl hrfl ho u w' hu' hw';have hge:=grownCap_ge w (es.length + ds.length) old e;have hcm:=grownCap_le_maxLen w (es.length + ds.length) old e hml
   have hnew:w'.heap[w.heap.size]? = some (.cells (fl.toArray ++ fy.toArray ++ Builtin.zeroCells z.cells (grownCap w (es.length + ds.length) old e - (es.length + ds.length))) e (0,0)):=by
    rw [hw']; exact zat w.drew _
   have hold:∀ k,k < w.heap.size -> w'.heap[k]? = w.heap[k]?:=fun k hk => by rw [hw']; exact heap_alloc_old w.drew _ hk
   have hsz:w.heap.size <= w'.heap.size:=by rw [hw']; simp
   obtain ⟨hI',hF'⟩:=hI.newTok hL hn2 tk (some w.heap.size) (grownCap w (es.length + ds.length) old e) (es ++ ds).length i.size hsz (fun k hk _ => hold k hk) (fun h => by cases h)
    (fun b' hb => by
     simp only [sI] at hb; subst hb
     refine ⟨.inl lR,⟨_,_,hnew,?_⟩,by rw [hll]; exact hge,hcm,hn,fun h => by rw [hll] at h; omega⟩;simp only [Array.size_append,size_toArray,size_zeroCells,hzs,hfl,hfy,<- Nat.add_mul]
     congr 1; omega)
    (fun b' hb hlt => by simp only [sI] at hb; omega) (fun b' hb o hF => by simp only [sI] at hb; subst hb; have:=hI.fin _ _ hF; omega) (fun b' hb T cs fz hh => by simp only [sI] at hb; subst hb; have:=zao hh; omega)
   refine ⟨hI',hF',?_,by rw [hw']; rfl,by rw [hw']; rfl,by rw [hw']; rfl,hsz,fun k hk _ => hold k hk,fun b' hb => by simp only [sI] at hb; subst hb; exact .inl ⟨lR,_,hnew⟩⟩;rw [hu',<- hll];refine zdh hn2 hn hwid (fl:=fl ++ fy) (by rw [flatten_append]; exact hrfl.append y2) (fun q y hq => ?_) (by rw [hll]; exact hge) (by rw [hll]; exact hcm) hF';rw [zae hnew]
   have hlt:q < (fl ++ fy).length:=by
    rcases Nat.lt_or_ge q (fl ++ fy).length with h | h
    ·exact h
    ·rw [getElem?_eq_none h] at hq; cases hq
   rw [<- hq,<- Array.getElem?_toList];simp only [Array.toList_append];rw [getElem?_append_left (by simpa using hlt)]
  rcases hX with ⟨rfl,rfl⟩ | ⟨b,u,rfl,hlv,htk,htl,hr,hcell⟩
  ·have hrun:=r2 hm0
   have hG:=grown [] 0 (by simp) .nil (by simpa using hm0) _ _ rfl rfl;simp only [length_nil,Nat.zero_add,nil_append,Array.empty_append] at hG ⊢;exact ⟨_,_,_,_,hrun,hG⟩
  ·obtain ⟨cur,e',fl,g1,g2,g3,g4,g5,g6,g7,g8,g9,g10⟩:=hY b u hlv htk htl hr hcell
   by_cases hroom:es.length + ds.length <= C.cp tk
   ·have hfit:es.length * i.size + fy.length <= cur.size:=by rw [hfy,g3,<- Nat.add_mul]; exact Nat.mul_le_mul_right _ hroom
    have hrun:=r3 hm0 b es.length (C.cp tk) cur e' g2 hroom hfit;obtain ⟨w',hw'⟩:∃ w',w' = w.setRow b (cur.toList.take (es.length * i.size) ++ fy ++ cur.toList.drop (es.length * i.size + fy.length)).toArray:=⟨_,rfl⟩;rw [<- hw'] at hrun;rw [g10] at hw';have hnew:w'.heap[b]? = some (.cells (fl ++ fy ++ cur.toList.drop (es.length * i.size + fy.length)).toArray e' (0,0)):=by rw [hw']; exact setRow_heap w b cur _ e' _ g2
    have hold:∀ k,k ≠ b -> w'.heap[k]? = w.heap[k]?:=fun k hk => by rw [hw']; exact setRow_other w b k _ hk
    have hsz:w'.heap.size = w.heap.size:=by rw [hw']; simp [World.setRow]
    have hcl:cur.toList.length = cur.size:=Array.length_toList
    have hcell1:∀ (q:Nat) (y:Value),(fl ++ fy)[q]? = some y -> w'.cell? ⟨b,q,none⟩ = some y:=fun q y hq => by
     rw [zae hnew]
     have hlt:q < (fl ++ fy).length:=by
      rcases Nat.lt_or_ge q (fl ++ fy).length with h | h
      ·exact h
      ·rw [getElem?_eq_none h] at hq; cases hq
     rw [<- hq,getElem?_toArray,getElem?_append_left hlt]
    obtain ⟨hI',hF'⟩:=hI.newTok hL hn2 tk (some b) (C.cp tk) (es ++ ds).length i.size (by omega) (fun k _ hne => hold k (fun h => hne (by rw [h]))) (fun h => by cases h)
     (fun b' hb => by
      simp only [sI] at hb; subst hb
      refine ⟨.inr ⟨hlv,htk⟩,⟨_,_,hnew,?_⟩,by rw [hll]; exact hroom,g5,hn,fun h => by rw [hll] at h; omega⟩;simp only [size_toArray,length_append,length_drop,g8,hfy];rw [hfy] at hfit; omega)
     (fun b' hb _ o hF => by
      simp only [sI] at hb; subst hb
      have ho:=g7 o hF;have hof:o < fl.length:=by omega
      rw [hcell1 o fl[o] (by rw [getElem?_append_left hof,getElem?_eq_getElem hof]),zae g2,<- Array.getElem?_toList]
      have:(cur.toList.take (es.length * i.size))[o]? = some fl[o]:=by rw [g10,getElem?_eq_getElem hof]
      rw [getElem?_take,if_pos ho] at this; exact this.symm)
     (fun b' hb o hF => by
      simp only [sI] at hb; subst hb
      have ho:=g7 o hF;rw [hll,Nat.add_mul]; omega)
     (fun b' hb T cs fz hh => by
      simp only [sI] at hb; subst hb
      rw [g2] at hh;simp only [sI,Obj.cells.injEq] at hh;obtain ⟨_,rfl,_⟩:=hh;exact ⟨_,_,hnew⟩)
    refine ⟨_,w',some b,C.cp tk,hrun,hI',hF',?_,by rw [hw']; rfl,by rw [hw']; rfl,by rw [hw']; rfl,by omega,fun k _ hne => hold k (fun h => hne (by rw [h])),fun b' hb => by simp only [sI] at hb; subst hb; exact .inr ⟨hlv,htk⟩⟩;rw [<- hll];exact zdh hn2 hn hwid (fl:=fl ++ fy) (by rw [flatten_append]; exact g9.append y2) hcell1 (by rw [hll]; exact hroom) g5 hF'
   ·have hrun:=r4 hm0 b es.length (C.cp tk) fl g8 (fun j v hj => by
      rw [zav,Nat.zero_add,zae g2,<- Array.getElem?_toList];rw [<- g10,getElem?_take] at hj
      split at hj
      ·exact hj
      ·cases hj) (by omega) hlen
    exact ⟨_,_,_,_,hrun,grown fl (C.cp tk) g8 g9 (by omega) _ _ rfl rfl⟩
theorem app_run (hL:Low NG T) {C:Cx} {bx:LP PC} {live:List Nat} {w:World} (hI:Inv NG T C bx (· ∈ live) w) (hn2:2 <= C.nt) {t:TypeId} {e:TypeId} {n:Nat} (he:elemT P t = some e) (hok:okElem P e n = true)
  {tk tk2:Nat} {es ds:LP PC} {x y:Value} (hx:RpC C w (.sl tk es) x) (hy:RpC C w (.sl tk2 ds) y) (ht:tk = 1 \/ tk ∈ live) (hlen:es.length + ds.length <= 4294967296) (hds:∀ d ∈ ds,d.length = n) (hes:∀ d ∈ es,d.length = n) (ty:TypeId) :
  ∃ u w' g cap,(Builtin.append_ #[t,t] ty #[x,y]).run P w = .ok u w' /\ Inv NG T (C.tok g cap (es ++ ds).length n) bx (· ∈ C.nt :: live.filter (· != tk)) w' /\ Fix C w w' /\ RpC (C.tok g cap (es ++ ds).length n) w' (.sl C.nt (es ++ ds)) u /\
   w'.os = w.os /\ w'.tape = w.tape /\ w'.output = w.output /\ w.heap.size <= w'.heap.size /\ (∀ k,k < w.heap.size -> g ≠ some k -> w'.heap[k]? = w.heap[k]?) /\ ∀ b,g = some b -> (w.heap.size <= b /\ ∃ cs,w'.heap[b]? = some (.cells cs e (0,0))) \/ (tk ∈ live /\ C.tk tk = some b):=by
 obtain ⟨hu,_⟩:=zaR he;obtain ⟨i,z,hi,hz,hsi,hby,hzs,hn⟩:=zbe hok;subst hsi;have hbytes:∀ k,k <= 4294967296 -> k * i.bytes <= 140737488355328:=fun k hk => Nat.le_trans (Nat.mul_le_mul hk hby) (by decide)
 by_cases hd0:ds = []
 ·subst hd0
  obtain ⟨ay,cy,rfl,_⟩:=sl_form hy;have hfc:∀ w:World,(Builtin.firstCells i.size 0 (.slice ay 0 cy)).run P w = .ok #[] w:=fun w => by cases ay <;> simp [Builtin.firstCells,loadCells,loadCellsFrom]
  refine app_core (z:=z) hL hI hn2 hzs hn (fy:=[]) hx ht hlen hds hes (by simp) .nil (fun x => (Builtin.append_ #[t,t] ty #[x,.slice ay 0 cy]).run P w) (fun _ => ?_) (fun _ b n c hc => ?_) (fun h => by simp at h) (fun h => by simp at h) (fun h => by simp at h)
  ·simp [Builtin.append_,run_underlying hu,sizeOf,typeInfo,hi,Builtin.lenOf,hfc]
  ·simp [Builtin.append_,run_underlying hu,sizeOf,typeInfo,hi,Builtin.lenOf,hc,hfc,storeCells]
 ·obtain ⟨ay,cy,rfl,_,h | ⟨b2,o2,n2,u2,rfl,k1,k2,hr2,hcell2⟩,_⟩:=sl_form hy
  ·exact absurd h hd0
  have hn2':n2 = i.size:=by
   obtain ⟨d,hd⟩:=exists_mem_of_ne_nil ds hd0;rw [<- hr2.wid d hd,hds d hd]
  subst hn2'
  obtain ⟨fy,y1,y2,y3⟩:=hr2.flat hcell2;have hfy:fy.length = ds.length * i.size:=by rw [y1,Nat.mul_comm]
  have hnews:∀ j u,fy[j]? = some u -> w.cell? ((⟨b2,o2,none⟩:Addr).add j) = some u:=fun j u hj => by rw [zav]; exact y3 j u hj
  have one2:=y2.one;refine app_core (z:=z) hL hI hn2 hzs hn (fy:=fy) hx ht hlen hds hes hfy y2 (fun x => (Builtin.append_ #[t,t] ty #[x,.slice (some ⟨b2,o2,none⟩) ds.length cy]).run P w) (fun h => absurd h hd0) (fun h => absurd h hd0) (fun hm0 => ?_) (fun hm0 b n c cur e' g2 hroom hfit => ?_) (fun hm0 b n c fl g8 hc hlt hle => ?_)
  ·exact run_append_nil (P:=P) w t ty e i z hu hi hz ⟨b2,o2,none⟩ ds.length cy fy hfy hnews hm0 (by omega) (by have:=hbytes ds.length (by omega); omega)
  ·exact zbF (P:=P) t ty e e' i hu hi b n c cur g2 ⟨b2,o2,none⟩ ds.length cy fy hfy hnews one2 hroom hfit
  ·exact run_append_grow (P:=P) w t ty e i z hu hi hz ⟨b,0,none⟩ n c fl g8 hc ⟨b2,o2,none⟩ ds.length cy fy hfy hnews (by omega) (by omega) (growslice_fits (by omega) (hbytes _ hle))
end
end
section
section
variable {P:Program} {NG:Nat} {T:World -> Prop}
theorem Inv.bo {C:Cx} {bx:LP PC} {live:Nat -> Prop} {w:World} (h:Inv NG T C bx live w):Bo C w bx:=⟨h.nb,h.box⟩
theorem Inv.recell {C:Cx} {bx:LP PC} {live:Nat -> Prop} {w:World} (h:Inv NG T C bx live w) {p:Nat} {cs cs':List PC} (hp:bx[p]? = some cs) (hc:∀ vs e,w.heap[C.bx p]? = some (.cells (toArray vs) e (0,0)) -> RpL C w cs vs -> RpL C w cs' vs):Inv NG T C (bx.set p cs') live w:=by
 have hl:(bx.set p cs').length = bx.length:=by simp
 refine ⟨by rw [hl]; exact h.nb,fun q c hq => ?_,by rw [hl]; exact h.boxF,by rw [hl]; exact h.boxG,by rw [hl]; exact h.inj,fun t ht => ?_,h.tinj,h.fin,h.ng,h.t⟩
 ·by_cases hqp:q = p
  ·subst hqp
   obtain ⟨vs,e,h1,h2⟩:=h.box q cs hp
   have hlt:q < bx.length:=by
    rcases Nat.lt_or_ge q bx.length with h' | h'
    ·exact h'
    ·simp [getElem?_eq_none h'] at hp
   rw [getElem?_set_self hlt] at hq;simp only [sI] at hq; subst hq
   exact ⟨vs,e,h1,hc vs e h1 h2⟩
  ·rw [getElem?_set_ne (by omega)] at hq
   exact h.box q c hq
 ·rw [hl]; exact h.tok t ht
theorem bldT_some {e U:TypeId} {cs:List Value} (h:bldT P e cs = some U):cs = [.pointer none,.slice none 0 0]:=by
 unfold bldT at h
 split at h
 ·rfl
 ·cases h
theorem zbI {e:X -> PV} {s:St} {m:MO} {r:PV × St} (h:lf e s m = some r):(∃ x,m = .box x) \/ (∃ z,m = .zero z) \/ (∃ n xs,m = .lit n xs) \/ (∃ n a x,m = .app n a x) \/ (∃ n a x,m = .store n a x) \/ (∃ T U,m = .zbld T U):=by
 cases m <;> first | (simp [lf] at h; done) | simp
theorem zdi {w:World} {t e:TypeId} {len:Nat} {parts:Array (Nat × Value)} {cells:Array Value} {i:TypeInfo} (hu:P.underlying t = some (.slice e)) (hi:P.info? e = some i) (h0:len * i.size = 0)
  (h:Instr.fill (fun x => some (x * i.size,i.size)) #[] parts.toList = some cells):(Instr.buildSlice t len parts).run P w = .ok (.slice (some ⟨w.heap.size,0,none⟩) len len) (w.alloc (.cells cells e)):=by
 have hs:(sizeOf e).run P w = .ok i.size w:=by simp [sizeOf,typeInfo,hi]
 have hm:∀ f:Nat -> Value,(Array.range 0).map f = #[]:=fun f => by simp
 simp only [Instr.buildSlice,Sem.run_bind,run_underlying hu,Result.andThen_ok,hs,h0];rw [if_neg (by decide)];simp only [if_true,pure_bind,hm,h];simp [newRow]
theorem zbJ {w:World} {t e:TypeId} {len:Nat} {parts:Array (Nat × Value)} {cells:Array Value} {i:TypeInfo} {z:Value} (hu:P.underlying t = some (.slice e)) (hi:P.info? e = some i) (hz:i.zero = some z) (hs:len * i.size <= 2 ^ 24)
  (h:Instr.fill (fun x => some (x * i.size,i.size)) ((range (len * i.size)).map (fun q => z.cells[q % z.cells.size]!)).toArray parts.toList = some cells):(Instr.buildSlice t len parts).run P w = .ok (.slice (some ⟨w.heap.size,0,none⟩) len len) (w.alloc (.cells cells e)):=by
 by_cases h0:len * i.size = 0
 ·rw [h0] at h
  exact zdi hu hi h0 h
 ·refine run_buildSlice w t e len parts cells i z hu hi hz (Nat.not_lt.2 hs) h0 ?_
  rw [<- map_toArray,toArray_range] at h; exact h
theorem lf_run (hL:Low NG T) {C0:Cx} {w0:World} {C:Cx} {w:World} {s s':St} (hI:Inv NG T C s.bx (· ∈ s.live) w) (hnt:C.nt = s.nt) (hn2:2 <= s.nt) (hE:Ext C0 w0 C s.bx.length (· ∈ s.live) w)
  {o:Oper} {m:MO} (ht:trOp P o.op = some m) {ρ:Operand -> Value} {e:X -> PV} (hρ:Ro C w ρ e) {v:PV} (h:lf e s m = some (v,s')) :
  ∃ u C' w',((execOp ρ o).run P w = .ok (.value u) w' \/ ((execOp ρ o).run P w = .ok .skip w' /\ u = undef)) /\ Inv NG T C' s'.bx (· ∈ s'.live) w' /\ C'.nt = s'.nt /\ 2 <= s'.nt /\ s'.tm = s.tm /\ CxLe C C' /\ Fix C w w' /\
   Ext C0 w0 C' s'.bx.length (· ∈ s'.live) w' /\ RpV C' w' v u:=by
 obtain ⟨dst,op,ty,pos,after,guard⟩:=o;simp only at ht
 -- a new box
 have newbox:∀ (cs:List PC) (us:List Value) (e':TypeId),RpL C w cs us ->
   Inv NG T (C.box w.heap.size) (s.bx ++ [cs]) (· ∈ s.live) (w.alloc (.cells us.toArray e')) /\ CxLe C (C.box w.heap.size) /\ Fix C w (w.alloc (.cells us.toArray e')) /\
    Ext C0 w0 (C.box w.heap.size) (s.bx ++ [cs]).length (· ∈ s.live) (w.alloc (.cells us.toArray e')) /\ RpV (C.box w.heap.size) (w.alloc (.cells us.toArray e')) (.ref s.bx.length 0) (.pointer (some ⟨w.heap.size,0,none⟩)):=by
  intro cs us e' hl;obtain ⟨h1,h2⟩:=hI.newBox hL hl e';have hle:=Cx.box_le C w.heap.size;have hnb:=hI.nb;refine ⟨h1,hle,h2,hE.step hle h2 rfl rfl rfl (by simp) (fun k hk _ _ => heap_alloc_old w _ (by have:=hE.size; omega)) (fun b o x => .inl x) (fun t b ht hb => hE.newT t b ht hb) (fun p hp hp2 => ?_),?_⟩
  ·by_cases hlt:p < s.bx.length
   ·rw [hle.bx p (by omega)]; exact hE.newB p hp hlt
   ·have:p = C.nb:=by simp at hp2; omega
    subst this; simp only [Cx.box,if_true]; exact hE.size
  ·have:=RpV.ref (C:=C.box w.heap.size) (w:=w.alloc (.cells us.toArray e')) s.bx.length 0 (by simp [Cx.box]; omega)
   have hb:(C.box w.heap.size).bx s.bx.length = w.heap.size:=by simp [Cx.box,hnb]
   rw [hb] at this; exact this
 cases op <;> simp only [trOp] at ht <;> (try (cases ht; done))
 case alloc e' =>
  split at ht
  ·rename_i z hz
   split at ht
   ·rename_i hall
    obtain ⟨it,hi1,hi2⟩:=Option.bind_eq_some_iff.1 hz;obtain ⟨k1,k2,k3,k4,k5⟩:=newbox _ z.cells.toList e' (zef hall)
    split at ht
    ·rename_i U hU
     simp only [sI] at ht; subst ht
     simp only [lf,sI,Prod.mk.injEq] at h;obtain ⟨rfl,rfl⟩:=h;have hcs:z.cells.toList.map ofC = [.v (.pointer none),.sl 1 []]:=by rw [bldT_some hU]; rfl
     rw [hcs] at k1 k4;have hnb:=hI.nb;have hb:(C.box w.heap.size).bx s.bx.length = w.heap.size:=by simp [Cx.box,hnb]
     have k6:=k1.recell (p:=s.bx.length) (cs':=[.bld s.bx.length e' 1 U,.sl 1 []]) (cs:=[.v (.pointer none),.sl 1 []]) (by simp) (fun vs e hh hl => by
      obtain ⟨v0,vr,rfl,h0,h1⟩:=hl.inv1
      cases h0
      rw [hb] at hh;have hn:=zat w (.cells z.cells.toList.toArray e');exact .cons (.bld _ _ _ _ _ (by simp [Cx.box]; omega) _ _ (by rw [hb]; exact hn) (.inl rfl) (.inl rfl)) h1)
     rw [set_append_right _ _ lR,Nat.sub_self] at k6;refine ⟨_,_,_,.inl ?_,k6,hnt,hn2,rfl,k2,k3,by simpa using k4,k5⟩;simp [execOp,Instr.alloc,zeroValue,typeInfo,hi1,hi2,newVar,newRow]
    ·simp only [sI] at ht; subst ht
     simp only [lf,sI,Prod.mk.injEq] at h;obtain ⟨rfl,rfl⟩:=h;refine ⟨_,_,_,.inl ?_,k1,hnt,hn2,rfl,k2,k3,k4,k5⟩;simp [execOp,Instr.alloc,zeroValue,typeInfo,hi1,hi2,newVar,newRow]
   ·cases ht
  ·cases ht
 case box e' x =>
  cases hx:trX x with
  | none => rw [hx] at ht; cases ht
  | some y =>
   rw [hx] at ht; simp only [Option.map_some,sI] at ht; subst ht
   simp only [lf] at h
   cases hc:pcells (e y) with
   | none => rw [hc] at h; cases h
   | some cs =>
    rw [hc] at h; simp only [Option.map_some,sI,Prod.mk.injEq] at h
    obtain ⟨rfl,rfl⟩:=h;obtain ⟨k1,k2,k3,k4,k5⟩:=newbox cs (ρ x).cells.toList e' (zck (hρ x y hx) hc);refine ⟨_,_,_,.inl ?_,k1,hnt,hn2,rfl,k2,k3,k4,k5⟩;simp [execOp,Instr.box,newVar,newRow]
 case buildSlice t len ps =>
  split at ht
  ·rename_i e' he
   split at ht
   ·rename_i n xs hn hxs
    split at ht
    ·rename_i hok
     simp only [Bool.and_eq_true,decide_eq_true_eq] at hok;obtain ⟨⟨hok1,hok2⟩,hok3⟩:=hok;simp only [sI] at ht; subst ht
     simp only [lf] at h
     cases hl:litP e n xs with
     | none => rw [hl] at h; cases h
     | some es =>
      rw [hl] at h; simp only [Option.map_some,sI,Prod.mk.injEq] at h
      obtain ⟨rfl,rfl⟩:=h;obtain ⟨hu,_⟩:=zaR he;obtain ⟨i,z,hi,hz,hsi,hby,hzs,hnp⟩:=zbe hok1;subst hsi
      -- the cells
      have hcells:∃ fl:List Value,fl.length = len * i.size /\ RpL C w es.flatten fl /\ (∀ d ∈ es,d.length = i.size) /\ es.length = len /\
        (Instr.buildSlice t len (ps.map fun (i,x) => (i,ρ x))).run P w = .ok (.slice (some ⟨w.heap.size,0,none⟩) len len) (w.alloc (.cells fl.toArray e')):=by
       obtain ⟨z0,hz0⟩:∃ z0:List Value,z0 = (range (len * i.size)).map (fun q => z.cells[q % z.cells.size]!):=⟨_,rfl⟩;obtain ⟨q1,q2,fl,q3,q4⟩:=zeh hρ (n:=i.size) (k:=0) (vs:=z0) hxs hl (by rw [hz0]; simp [hok2]);rw [Nat.zero_mul,take_zero,nil_append] at q3;have hps:(ps.map fun (i,x) => (i,ρ x)).toList = ps.toList.map fun p => (p.1,ρ p.2):=by simp
       refine ⟨fl,by rw [q4.1,zaI q1,q2,hok2,Nat.mul_comm],q4,q1,by rw [q2,hok2],?_⟩;refine zbJ hu hi hz hok3 ?_;rw [hps,<- hz0]; exact q3
      obtain ⟨fl,f0,f1,f2,f3,f4⟩:=hcells;have hnew:=zat w (.cells fl.toArray e');have hold:∀ k,k < w.heap.size -> (w.alloc (.cells fl.toArray e')).heap[k]? = w.heap[k]?:=fun k hk => heap_alloc_old w _ hk
      have hlm:len <= maxLen:=by
       have:len <= len * i.size:=Nat.le_mul_of_pos_right _ hnp
       unfold maxLen; omega
      obtain ⟨hI',hF'⟩:=hI.newTok hL (by omega) 0 (some w.heap.size) len len i.size (w':=w.alloc (.cells fl.toArray e')) (by simp) (fun k hk _ => hold k hk) (fun h => by cases h)
       (fun b hb => by simp only [sI] at hb; subst hb; exact ⟨.inl lR,⟨_,_,hnew,by simp [f0]⟩,lR,hlm,hnp,fun h => h⟩)
       (fun b hb hlt => by simp only [sI] at hb; omega) (fun b hb o hF => by simp only [sI] at hb; subst hb; have:=hI.fin _ _ hF; omega) (fun b hb T cs fz hh => by simp only [sI] at hb; subst hb; have:=zao hh; omega)
      have hfil:s.live.filter (· != 0) = s.live:=filter_eq_self.2 fun t ht => by have:=(hI.tok t ht).1; simp; omega
      rw [hfil] at hI';rw [hnt] at hI';have hown:=zdh (C:=C) (w:=w) (w':=w.alloc (.cells fl.toArray e')) (b:=w.heap.size) (cap:=len) (by omega) hnp f2 f1 (fun q y hq => by rw [zae hnew,<- Array.getElem?_toList]; simpa using hq) (by omega) hlm hF';rw [f3,hnt] at hown;refine ⟨_,C.tok (some w.heap.size) len len i.size,_,.inl ?_,hI',by simp [Cx.tok,hnt],by show 2 <= s.nt + 1; omega,rfl,Cx.tok_le _ _ _ _ _,hF',?_,.d _ _ hown⟩
      ·simp [execOp,f4]
      ·refine hE.step (Cx.tok_le _ _ _ _ _) hF' rfl rfl rfl (by simp) (fun k hk _ _ => hold k (by have:=hE.size; omega)) ?_ ?_ (fun p hp hp2 => hE.newB p hp hp2)
       ·rintro b o (hb | ⟨hb,_⟩)
        ·exact .inl hb
        ·simp only [sI] at hb; subst hb; exact .inr (.inl hE.size)
       ·intro t b htl hb
        simp only [mem_cons] at htl;by_cases htn:t = C.nt
        ·subst htn; rw [(Cx.tok_new C _ _ _ _).1] at hb; simp only [sI] at hb; subst hb; exact .inl hE.size
        ·have hm:t ∈ s.live:=htl.resolve_left (by rw [<- hnt]; exact htn)
         rw [((Cx.tok_le C _ _ _ _).tk t (hI.tok t hm).2.1).1] at hb; exact hE.newT t b hm hb
    ·cases ht
   ·cases ht
  ·cases ht
 case store t a x =>
  split at ht
  ·rename_i n a' x' h1 h2 h3
   simp only [sI] at ht; subst ht
   simp only [lf] at h
   split at h
   ·rename_i p off cs hp hc
    split at h
    ·rename_i z hz
     split at h
     ·rename_i hle
      simp only [sI,Prod.mk.injEq] at h;obtain ⟨rfl,rfl⟩:=h;have hr:=hρ a a' h2;rw [hp] at hr;generalize hg:ρ a = g at hr
      cases hr with
      | ref _ _ hpb =>
       have hk:=zck (hρ x x' h3) hc;have hplt:p < s.bx.length:=by rw [<- hI.nb]; exact hpb
       obtain ⟨vs,e',hh,hl⟩:=hI.box p z hz;have hone:∀ v ∈ (ρ x).cells.toList,v.oneCell' = true:=hk.one;have hcl:(ρ x).cells.toList.length = n:=by rw [hk.1]; exact hle.1
       have hsz:(ρ x).cells.size = n:=by rw [<- Array.length_toList]; exact hcl
       have hst:=run_storeCells_at P (C.bx p) off e' (ρ x).cells.toList 0 vs.toArray w hh (by simp only [size_toArray,Nat.add_zero]; rw [hl.1,hcl]; exact hle.2) hone;simp only [Nat.add_zero] at hst;obtain ⟨w',hw'⟩:∃ w',w' = w.setRow (C.bx p) (vs.take off ++ (ρ x).cells.toList ++ vs.drop (off + (ρ x).cells.toList.length)).toArray:=⟨_,rfl⟩;have hnew:w'.heap[C.bx p]? = some (.cells (vs.take off ++ (ρ x).cells.toList ++ vs.drop (off + (ρ x).cells.toList.length)).toArray e' (0,0)):=by rw [hw']; exact setRow_heap w _ _ _ e' _ hh
       have hold:∀ k,k ≠ C.bx p -> w'.heap[k]? = w.heap[k]?:=fun k hk => by rw [hw']; exact setRow_other w _ k _ hk
       have hss:w.heap.size = w'.heap.size:=by rw [hw']; simp [World.setRow]
       obtain ⟨hI',hF'⟩:=hI.write hL hplt hnew (zcl hl hk off) (fun T cs0 h0 => by rw [hh] at h0; simp only [sI,Obj.cells.injEq] at h0; exact h0.2.1) hss hold;refine ⟨undef,C,w',.inr ⟨?_,rfl⟩,hI',hnt,hn2,rfl,CxLe.refl C,hF',?_,.tup [] [] rfl (fun j x y h => by simp at h)⟩
       ·rw [hw']
        simp only [execOp,hg,Instr.storeAt,Instr.sureAddr,storeVar];simp [za9 h1,hsz,hst]
       ·have hEs:∀ k,k < w0.heap.size -> (∀ p,p < C0.nb -> C0.bx p ≠ k) -> w'.heap[k]? = w.heap[k]?:=by
         intro k hk hne;refine hold k fun hkp => ?_
         by_cases hpn:p < C0.nb
         ·exact hne p hpn (by rw [<- hE.bx.2 p hpn]; exact hkp.symm)
         ·have:=hE.newB p (by omega) hplt; omega
        have:=hE.step (C':=C) (nb':=s.bx.length) (live':=(· ∈ s.live)) (CxLe.refl C) hF' (by rw [hw']; rfl) (by rw [hw']; rfl) (by rw [hw']; rfl) (by omega) (fun k hk hne _ => hEs k hk hne) (fun b o x => .inl x) hE.newT hE.newB
        simpa using this
     ·cases h
    ·cases h
   ·cases h
  ·cases ht
 case call c =>
  obtain ⟨callee,args,argTypes⟩:=c;simp only at ht
  split at ht
  ·cases hx:trXs args.toList with
   | none => rw [hx] at ht; cases ht
   | some xs => rw [hx] at ht; simp only [Option.map_some,sI] at ht; subst ht; simp [lf] at h
  ·cases hx:trXs args.toList with
   | none => rw [hx] at ht; cases ht
   | some xs => rw [hx] at ht; simp only [Option.map_some,sI] at ht; subst ht; simp [lf] at h
  ·split at ht
   ·split at ht
    ·cases hx:trX _ with
     | none => rw [hx] at ht; cases ht
     | some y => rw [hx] at ht; simp only [Option.map_some,sI] at ht; subst ht; simp [lf] at h
    ·split at ht
     ·cases hx:trX _ with
      | none => rw [hx] at ht; cases ht
      | some y => rw [hx] at ht; simp only [Option.map_some,sI] at ht; subst ht; simp [lf] at h
     ·cases ht
   ·cases ht
  ·split at ht
   ·split at ht
    ·simp only [sI] at ht; subst ht; simp [lf] at h
    ·cases ht
   ·cases ht
  ·split at ht
   ·split at ht
    ·simp only [sI] at ht; subst ht; simp [lf] at h
    ·cases ht
   ·cases ht
  ·split at ht
   ·rename_i a b t t' hargs htys
    have ea:args = #[a,b]:=by rw [<- Array.toArray_toList (xs:=args),hargs]
    have et:argTypes = #[t,t']:=by rw [<- Array.toArray_toList (xs:=argTypes),htys]
    subst ea; subst et
    split at ht
    ·rename_i e' he
     split at ht
     ·rename_i n a' b' h1 h2 h3
      split at ht
      ·rename_i hok
       simp only [Bool.and_eq_true] at hok;obtain ⟨hok2,hok⟩:=hok;simp only [sI] at ht; subst ht
       simp only [lf] at h
       split at h
       ·rename_i tk es tk2 ds hy1 hy2
        split at h
        ·rename_i hc
         simp only [sI,Prod.mk.injEq] at h;obtain ⟨rfl,rfl⟩:=h;have hr1:=hρ a a' h2;have hr2:=hρ b b' h3;rw [hy1] at hr1; rw [hy2] at hr2
         generalize hg1:ρ a = g1 at hr1;generalize hg2:ρ b = g2 at hr2
         cases hr1 with
         | d _ _ hv1 => cases hr2 with
          | d _ _ hv2 =>
           obtain ⟨u,w',g,cap,k1,k2,k3,k4,k5,k6,k7,k8,k9,k10⟩:=app_run (P:=P) hL hI (by omega) he hok hv1 hv2 hc.1 hc.2.1 hc.2.2.1 hc.2.2.2 ty;rw [hnt] at k2 k4;rw [<- zeR he hok2 ty] at k1;refine ⟨u,C.tok g cap (es ++ ds).length n,w',.inl ?_,k2,by simp [Cx.tok,hnt],by show 2 <= s.nt + 1; omega,rfl,Cx.tok_le _ _ _ _ _,k3,?_,.d _ _ k4⟩
           ·simp [execOp,resolve,invoke,builtin,hg1,hg2,k1]
           ·have hgw0:∀ b,g = some b -> w0.heap.size <= b \/ ∃ s,C0.old s /\ C0.tk s = some b:=by
             intro b hb
             rcases k10 b hb with ⟨h,_⟩ | ⟨h,h'⟩
             ·have:=hE.size; exact .inl (by omega)
             ·exact hE.newT tk b h h'
            refine hE.step (Cx.tok_le _ _ _ _ _) k3 k5 k6 k7 k8 (fun k hk _ ho => k9 k (by have:=hE.size; omega) (fun hgk => by
             rcases hgw0 k hgk with h | ⟨t,h1,h2⟩
             ·omega
             ·exact ho t h1 h2)) ?_ ?_ (fun p hp hp2 => hE.newB p hp hp2)
            ·rintro b o (hb | ⟨hb,_⟩)
             ·exact .inl hb
             ·exact .inr (hgw0 b hb)
            ·intro t b htl hb
             simp only [mem_cons,mem_filter] at htl;by_cases htn:t = C.nt
             ·subst htn; rw [(Cx.tok_new C _ _ _ _).1] at hb; exact hgw0 b hb
             ·have hm:t ∈ s.live:=(htl.resolve_left (by rw [<- hnt]; exact htn)).1
              rw [((Cx.tok_le C _ _ _ _).tk t (hI.tok t hm).2.1).1] at hb; exact hE.newT t b hm hb
        ·cases h
       ·cases h
      ·cases ht
     ·cases ht
    ·cases ht
   ·cases ht
  ·cases ht
 all_goals (exfalso; rcases zbI h with ⟨x,rfl⟩ | ⟨x,rfl⟩ | ⟨x,y,rfl⟩ | ⟨x,y,z,rfl⟩ | ⟨x,y,z,rfl⟩ | ⟨x,y,rfl⟩)
 all_goals (clear h)
 all_goals ((repeat' split at ht) <;> first | contradiction | (cases ht; done) | (simp at ht; done))
end
end
section
mutual
def PC.er:PC -> PC
 | .v x => .v x
 | .bld _ _ _ _ => .anyp
 | .anyp => .anyp
 | .row _ _ _ => .anyp
 | .sl _ es => .sl 0 (erLL es)
def erL:List PC -> List PC
 | [] => []
 | c :: cs => PC.er c :: erL cs
def erLL:LP PC -> LP PC
 | [] => []
 | l :: ls => erL l :: erLL ls
end
theorem zaw:∀ l,erL l = l.map PC.er
 | [] => rfl
 | c :: cs => by simp [erL,zaw cs]
theorem zas:∀ l,erLL l = l.map erL
 | [] => rfl
 | c :: cs => by simp [erLL,zas cs]
mutual
def PC.sh (k:Nat):PC -> PC
 | .v x => .v x
 | .bld _ _ _ _ => .anyp
 | .anyp => .anyp
 | .row _ _ _ => .anyp
 | .sl t es => .sl (if 2 <= t then t + k else t) (shLL k es)
def shL (k:Nat):List PC -> List PC
 | [] => []
 | c :: cs => PC.sh k c :: shL k cs
def shLL (k:Nat):LP PC -> LP PC
 | [] => []
 | l :: ls => shL k l :: shLL k ls
end
theorem zcC (k:Nat):∀ l,shL k l = l.map (PC.sh k)
 | [] => rfl
 | c :: cs => by simp [shL,zcC k cs]
theorem zcY (k:Nat):∀ l,shLL k l = l.map (shL k)
 | [] => rfl
 | c :: cs => by simp [shLL,zcY k cs]
mutual
def PC.toks:PC -> List Nat
 | .v _ => []
 | .bld _ _ _ _ => []
 | .anyp => []
 | .row _ _ _ => []
 | .sl t es => if 2 <= t then t :: toksLL es else toksLL es
def toksL:List PC -> List Nat
 | [] => []
 | c :: cs => PC.toks c ++ toksL cs
def toksLL:LP PC -> List Nat
 | [] => []
 | l :: ls => toksL l ++ toksLL ls
end
mutual
def PC.owned:PC -> Bool
 | .v _ => true
 | .bld _ _ _ _ => false
 | .anyp => false
 | .row _ _ _ => false
 | .sl t es => (decide (t ≠ 0) || es.isEmpty) && ownedLL es
def ownedL:List PC -> Bool
 | [] => true
 | c :: cs => PC.owned c && ownedL cs
def ownedLL:LP PC -> Bool
 | [] => true
 | l :: ls => ownedL l && ownedLL ls
end
mutual
theorem PC.er_sh (k:Nat):∀ c:PC,(c.sh k).er = c.er
 | .v x => rfl
 | .bld _ _ _ _ => rfl
 | .anyp => rfl
 | .row _ _ _ => rfl
 | .sl t es => by simp [PC.sh,PC.er,erLL_sh k es]
theorem erL_sh (k:Nat):∀ l:List PC,erL (shL k l) = erL l
 | [] => rfl
 | c :: cs => by simp [shL,erL,PC.er_sh k c,erL_sh k cs]
theorem erLL_sh (k:Nat):∀ l:LP PC,erLL (shLL k l) = erLL l
 | [] => rfl
 | c :: cs => by simp [shLL,erLL,erL_sh k c,erLL_sh k cs]
end
mutual
theorem PC.toks_sh (k:Nat):∀ c:PC,(c.sh k).toks = c.toks.map (· + k)
 | .v x => rfl
 | .bld _ _ _ _ => rfl
 | .anyp => rfl
 | .row _ _ _ => rfl
 | .sl t es => by
  by_cases h:2 <= t
  ·simp [PC.sh,PC.toks,h,toksLL_sh k es,show 2 <= t + k by omega]
  ·simp [PC.sh,PC.toks,h,toksLL_sh k es]
theorem zcZ (k:Nat):∀ l:List PC,toksL (shL k l) = (toksL l).map (· + k)
 | [] => rfl
 | c :: cs => by simp [shL,toksL,PC.toks_sh k c,zcZ k cs]
theorem toksLL_sh (k:Nat):∀ l:LP PC,toksLL (shLL k l) = (toksLL l).map (· + k)
 | [] => rfl
 | c :: cs => by simp [shLL,toksLL,zcZ k c,toksLL_sh k cs]
end
mutual
theorem PC.owned_sh (k:Nat):∀ c:PC,(c.sh k).owned = c.owned
 | .v x => rfl
 | .bld _ _ _ _ => rfl
 | .anyp => rfl
 | .row _ _ _ => rfl
 | .sl t es => by
  have:(shLL k es).isEmpty = es.isEmpty:=by rw [zcY]; simp
  simp only [PC.sh,PC.owned,ownedLL_sh k es,this];by_cases h:2 <= t
  ·have e1:t + k ≠ 0:=by omega
   have e2:t ≠ 0:=by omega
   rw [if_pos h]; simp [e2]
  ·rw [if_neg h]
theorem zcm (k:Nat):∀ l:List PC,ownedL (shL k l) = ownedL l
 | [] => rfl
 | c :: cs => by simp [shL,ownedL,PC.owned_sh k c,zcm k cs]
theorem ownedLL_sh (k:Nat):∀ l:LP PC,ownedLL (shLL k l) = ownedLL l
 | [] => rfl
 | c :: cs => by simp [shLL,ownedLL,zcm k c,ownedLL_sh k cs]
end
theorem RowAt.map {C C':Cx} {w:World} {b o n:Nat} {es:LP PC} {u:Nat -> Nat -> Value} (h:RowAt C w b o n es u) (g:List PC -> List PC) (hg:∀ l,(g l).length = l.length) (hF:∀ b o,C.F b o -> C'.F b o):RowAt C' w b o n (es.map g) u :=
 ⟨h.pos,fun e he => by obtain ⟨x,hx,rfl⟩:=mem_map.1 he; rw [hg]; exact h.wid x hx,fun i j hi hj => h.cell i j (by simpa using hi) hj,fun i j hi hj => hF _ _ (h.fix i j (by simpa using hi) hj)⟩
theorem RpC.toEr {C C':Cx} {w:World} (hF:∀ b o,C.F b o -> C'.F b o) {c:PC} {v:Value} (h:RpC C w c v):RpC C' w c.er v:=by
 have conv:∀ (es:LP PC) (u:Nat -> Nat -> Value),(∀ (i j:Nat) (e:List PC) (y:PC),es[i]? = some e -> e[j]? = some y -> RpC C' w y.er (u i j)) -> ∀ (i j:Nat) (e:List PC) (y:PC),(es.map erL)[i]? = some e -> e[j]? = some y -> RpC C' w y (u i j):=by
  intro es u ih i j e y he hy;rw [getElem?_map] at he
  cases h0:es[i]? with
  | none => rw [h0] at he; cases he
  | some e0 =>
   rw [h0] at he; simp only [Option.map_some,sI] at he; subst he
   rw [zaw,getElem?_map] at hy
   cases h1:e0[j]? with
   | none => rw [h1] at hy; cases hy
   | some y0 => rw [h1] at hy; simp only [Option.map_some,sI] at hy; subst hy; exact ih i j e0 y0 h0 h1
 have hlen:∀ l:List PC,(erL l).length = l.length:=fun l => by rw [zaw]; simp
 induction h with
 | v x h => exact .v x h
 | bld p T t U v h cs fz ht hv hU => rcases hv with rfl | rfl <;> exact .anyp _ rfl
 | anyp a h => exact .anyp a h
 | row p l c h hl hc => exact .anyp _ rfl
 | emp a c => exact .emp a c
 | nil => exact .emp _ _
 | nilo t h2 ht hb => exact .emp _ _
 | rd es b o n c u hl hc hr _ ih =>
  have:=RpC.rd (C:=C') (w:=w) (es.map erL) b o n c u (by simpa using hl) hc (hr.map erL hlen hF) (conv es u ih)
  rw [length_map] at this;show RpC C' w (.sl 0 (erLL es)) _
  rw [zas]; exact this
 | own t es b u h2 ht hb hlen' hl hc hr _ ih =>
  have:=RpC.rd (C:=C') (w:=w) (es.map erL) b 0 (C.tn t) (C.cp t) u (by simpa using hl) hc (hr.map erL hlen hF) (conv es u ih)
  rw [length_map] at this;show RpC C' w (.sl 0 (erLL es)) _;rw [zas]; exact this
theorem RpL.toEr {C C':Cx} {w:World} (hF:∀ b o,C.F b o -> C'.F b o) {cs:List PC} {vs:List Value} (h:RpL C w cs vs):RpL C' w (erL cs) vs:=by
 refine ⟨by rw [zaw]; simpa using h.1,fun j c y h1 h2 => ?_⟩;rw [zaw,getElem?_map] at h1
 cases h0:cs[j]? with
 | none => rw [h0] at h1; cases h1
 | some c0 => rw [h0] at h1; simp only [Option.map_some,sI] at h1; subst h1; exact (h.2 j c0 y h0 h2).toEr hF
structure ShLe (C C':Cx) (k:Nat):Prop where
 F:∀ b o,C.F b o -> C'.F b o
 nt:C.nt + k <= C'.nt
 tk:∀ t,2 <= t -> t < C.nt -> C'.tk (t + k) = C.tk t /\ C'.cp (t + k) = C.cp t /\ C'.tl (t + k) = C.tl t /\ C'.tn (t + k) = C.tn t
theorem RpC.toSh {C C':Cx} {k:Nat} {w:World} (hS:ShLe C C' k) {c:PC} {v:Value} (h:RpC C w c v):RpC C' w (c.sh k) v:=by
 have conv:∀ (es:LP PC) (u:Nat -> Nat -> Value),(∀ (i j:Nat) (e:List PC) (y:PC),es[i]? = some e -> e[j]? = some y -> RpC C' w (y.sh k) (u i j)) -> ∀ (i j:Nat) (e:List PC) (y:PC),(es.map (shL k))[i]? = some e -> e[j]? = some y -> RpC C' w y (u i j):=by
  intro es u ih i j e y he hy;rw [getElem?_map] at he
  cases h0:es[i]? with
  | none => rw [h0] at he; cases he
  | some e0 =>
   rw [h0] at he; simp only [Option.map_some,sI] at he; subst he
   rw [zcC,getElem?_map] at hy
   cases h1:e0[j]? with
   | none => rw [h1] at hy; cases hy
   | some y0 => rw [h1] at hy; simp only [Option.map_some,sI] at hy; subst hy; exact ih i j e0 y0 h0 h1
 have hlen:∀ l:List PC,(shL k l).length = l.length:=fun l => by rw [zcC]; simp
 induction h with
 | v x h => exact .v x h
 | bld p T t U v h cs fz ht hv hU => rcases hv with rfl | rfl <;> exact .anyp _ rfl
 | anyp a h => exact .anyp a h
 | row p l c h hl hc => exact .anyp _ rfl
 | emp a c => exact .emp a c
 | nil => exact .nil
 | nilo t h2 ht hb =>
  have e1:=hS.tk t h2 ht
  have:=RpC.nilo (C:=C') (w:=w) (t + k) (by omega) (by have:=hS.nt; omega) (e1.1.trans hb)
  simp only [PC.sh,if_pos h2]; exact this
 | rd es b o n c u hl hc hr _ ih =>
  have:=RpC.rd (C:=C') (w:=w) (es.map (shL k)) b o n c u (by simpa using hl) hc (hr.map (shL k) hlen hS.F) (conv es u ih)
  rw [length_map] at this
  simp only [PC.sh,zcY]; exact this
 | own t es b u h2 ht hb hlen' hl hc hr _ ih =>
  obtain ⟨e1,e2,e3,e4⟩:=hS.tk t h2 ht;have hr':=hr.map (shL k) hlen hS.F;rw [<- e4] at hr'
  have:=RpC.own (C:=C') (w:=w) (t + k) (es.map (shL k)) b u (by omega) (by have:=hS.nt; omega) (e1.trans hb) (by rw [e3]; simpa using hlen') (by rw [e2]; simpa using hl) (by rw [e2]; exact hc) hr' (conv es u ih)
  rw [length_map,e2] at this;simp only [PC.sh,if_pos h2,zcY]; exact this
theorem RpL.toSh {C C':Cx} {k:Nat} {w:World} (hS:ShLe C C' k) {cs:List PC} {vs:List Value} (h:RpL C w cs vs):RpL C' w (shL k cs) vs:=by
 refine ⟨by rw [zcC]; simpa using h.1,fun j c y h1 h2 => ?_⟩;rw [zcC,getElem?_map] at h1
 cases h0:cs[j]? with
 | none => rw [h0] at h1; cases h1
 | some c0 => rw [h0] at h1; simp only [Option.map_some,sI] at h1; subst h1; exact (h.2 j c0 y h0 h2).toSh hS
mutual
def PV.dat:PV -> Option PV
 | .d c => some (.d c.er)
 | .ag cs => some (.ag (erL cs))
 | .tup vs => (PV.dats vs).map .tup
 | .pt cs => some (.pt (erL cs))
 | _ => none
def PV.dats:List PV -> Option (List PV)
 | [] => some []
 | v :: vs =>
  match PV.dat v,PV.dats vs with
  | some x,some l => some (x :: l)
  | _,_ => none
end
theorem PV.dats_some:∀ {vs xs:List PV},PV.dats vs = some xs -> xs.length = vs.length /\ ∀ (j:Nat) (x:PV),xs[j]? = some x -> ∃ v,vs[j]? = some v /\ PV.dat v = some x
 | [],xs,h => by simp only [PV.dats,sI] at h; subst h; simp
 | v :: vs,xs,h => by
  simp only [PV.dats] at h
  split at h
  ·rename_i x l h1 h2
   simp only [sI] at h; subst h
   obtain ⟨k1,k2⟩:=PV.dats_some h2;refine ⟨by simp [k1],fun j y hy => ?_⟩
   match j with
   | 0 => simp at hy; subst hy; exact ⟨v,rfl,h1⟩
   | j + 1 => simpa using k2 j y (by simpa using hy)
  ·cases h
theorem RpV.toDat {C C':Cx} {w:World} (hF:∀ b o,C.F b o -> C'.F b o) {x:PV} {v:Value} (h:RpV C w x v):∀ {y:PV},x.dat = some y -> RpV C' w y v:=by
 induction h with
 | d x v h => intro y hy; simp only [PV.dat,sI] at hy; subst hy; exact .d _ _ (h.toEr hF)
 | ag cs vs h => intro y hy; simp only [PV.dat,sI] at hy; subst hy; exact .ag _ _ (h.toEr hF)
 | tup xs vs hl _ ih =>
  intro y hy;simp only [PV.dat] at hy
  cases h0:PV.dats xs with
  | none => rw [h0] at hy; cases hy
  | some l =>
   rw [h0] at hy; simp only [Option.map_some,sI] at hy; subst hy
   obtain ⟨k1,k2⟩:=PV.dats_some h0;refine .tup l vs (by rw [hl,k1]) fun j x y hx hy => ?_
   obtain ⟨v0,hv0,hd⟩:=k2 j x hx
   exact ih j v0 y hv0 hy hd
 | ref p o h => intro y hy; simp [PV.dat] at hy
 | pt cs b o u hc hf h =>
  intro y hy; simp only [PV.dat,sI] at hy; subst hy
  refine .pt (erL cs) b o u (fun j hj => hc j (by rw [zaw] at hj; simpa using hj)) (fun j hj => hF _ _ (hf j (by rw [zaw] at hj; simpa using hj))) (fun j c hj => ?_);rw [zaw,getElem?_map] at hj
  cases h0:cs[j]? with
  | none => rw [h0] at hj; cases hj
  | some c0 => rw [h0] at hj; simp only [Option.map_some,sI] at hj; subst hj; exact (h j c0 h0).toEr hF
 | fn f xs vs hl _ ih => intro y hy; simp [PV.dat] at hy
 | raw v => intro y hy; simp [PV.dat] at hy
mutual
def PV.shf (k:Nat):PV -> Option PV
 | .d c => some (.d (c.sh k))
 | .ag cs => some (.ag (shL k cs))
 | .tup vs => (PV.shfs k vs).map .tup
 | _ => none
def PV.shfs (k:Nat):List PV -> Option (List PV)
 | [] => some []
 | v :: vs =>
  match PV.shf k v,PV.shfs k vs with
  | some x,some l => some (x :: l)
  | _,_ => none
end
theorem PV.shfs_some {k:Nat}:∀ {vs xs:List PV},PV.shfs k vs = some xs -> xs.length = vs.length /\ ∀ (j:Nat) (x:PV),xs[j]? = some x -> ∃ v,vs[j]? = some v /\ PV.shf k v = some x
 | [],xs,h => by simp only [PV.shfs,sI] at h; subst h; simp
 | v :: vs,xs,h => by
  simp only [PV.shfs] at h
  split at h
  ·rename_i x l h1 h2
   simp only [sI] at h; subst h
   obtain ⟨k1,k2⟩:=PV.shfs_some h2;refine ⟨by simp [k1],fun j y hy => ?_⟩
   match j with
   | 0 => simp at hy; subst hy; exact ⟨v,rfl,h1⟩
   | j + 1 => simpa using k2 j y (by simpa using hy)
  ·cases h
theorem RpV.toShf {C C':Cx} {k:Nat} {w:World} (hS:ShLe C C' k) {x:PV} {v:Value} (h:RpV C w x v):∀ {y:PV},x.shf k = some y -> RpV C' w y v:=by
 induction h with
 | d x v h => intro y hy; simp only [PV.shf,sI] at hy; subst hy; exact .d _ _ (h.toSh hS)
 | ag cs vs h => intro y hy; simp only [PV.shf,sI] at hy; subst hy; exact .ag _ _ (h.toSh hS)
 | tup xs vs hl _ ih =>
  intro y hy;simp only [PV.shf] at hy
  cases h0:PV.shfs k xs with
  | none => rw [h0] at hy; cases hy
  | some l =>
   rw [h0] at hy; simp only [Option.map_some,sI] at hy; subst hy
   obtain ⟨k1,k2⟩:=PV.shfs_some h0;refine .tup l vs (by rw [hl,k1]) fun j x y hx hy => ?_
   obtain ⟨v0,hv0,hd⟩:=k2 j x hx
   exact ih j v0 y hv0 hy hd
 | ref p o h => intro y hy; simp [PV.shf] at hy
 | pt cs b o u hc hf h => intro y hy; simp [PV.shf] at hy
 | fn f xs vs hl _ ih => intro y hy; simp [PV.shf] at hy
 | raw v => intro y hy; simp [PV.shf] at hy
def PV.toks:PV -> List Nat
 | .d c => c.toks
 | .ag cs => toksL cs
 | .tup [.d c] => c.toks
 | .tup [.d c,.d c'] => c.toks ++ c'.toks
 | .tup [.ag c,.d c'] => toksL c ++ c'.toks
 | .tup [.d c,.ag c'] => c.toks ++ toksL c'
 | .tup [.ag c,.ag c'] => toksL c ++ toksL c'
 | _ => []
end
section
theorem Ext.newT0 {C0 C:Cx} {w0 w:World} {nb:Nat} {live:Nat -> Prop} (h:Ext C0 w0 C nb live w) (ho:∀ t,¬ C0.old t) (t b:Nat) (ht:live t) (hb:C.tk t = some b):w0.heap.size <= b:=(h.newT t b ht hb).resolve_right fun ⟨s,hs,_⟩ => ho s hs
theorem Ext.newF0 {C0 C:Cx} {w0 w:World} {nb:Nat} {live:Nat -> Prop} (h:Ext C0 w0 C nb live w) (ho:∀ t,¬ C0.old t) (b o:Nat) (hF:C.F b o):C0.F b o \/ w0.heap.size <= b:=(h.newF b o hF).imp id fun h => h.resolve_right fun ⟨s,hs,_⟩ => ho s hs
theorem Ext.block0 {C0 C:Cx} {w0 w:World} {nb:Nat} {live:Nat -> Prop} (h:Ext C0 w0 C nb live w) (ho:∀ t,¬ C0.old t) (k:Nat) (hk:k < w0.heap.size) (hp:∀ p,p < C0.nb -> C0.bx p ≠ k):w.heap[k]? = w0.heap[k]?:=h.block k hk hp fun t ht => (ho t ht).elim
structure Env where
 P:Program
 NG:Nat
 T:World -> Prop
 low:Low NG T
 mixed:P.follows .mixedOrders = true
structure Base where
 C:Cx
 w:World
 n:Nat
structure Rep (E:Env) (B:Base) (C:Cx) (s:St) (a:Act) (w:World):Prop where
 inv:Inv E.NG E.T C s.bx (· ∈ s.live) w
 nt:C.nt = s.nt
 n2:2 <= s.nt
 ext:Ext B.C B.w C s.bx.length (· ∈ s.live) w
 size:a.tmps.size = B.n
 defers:a.defers = []
 tm:∀ t,RpV C w (s.tm t) (a.tmps.getD t undef)
def Fn (E:Env) (f:Nat) (args:List PV) (R:PV -> (Nat -> Prop) -> Prop):Prop :=
 ∀ (C:Cx) (w:World) (vs:List Value),Inv E.NG E.T C [] (fun _ => False) w -> C.nt = 2 -> (∀ t,¬ C.old t) -> vs.length = args.length -> (∀ (j:Nat) (x:PV) (y:Value),args[j]? = some x -> vs[j]? = some y -> RpV C w x y) ->
  Calls E.P f vs.toArray w fun e w' => ∃ u x bx live C',e = .returned u /\ R x live /\ Inv E.NG E.T C' bx live w' /\ Ext C w C' bx.length live w' /\ RpV C' w' x u
theorem Fn.mono {E:Env} {f:Nat} {args:List PV} {R R':PV -> (Nat -> Prop) -> Prop} (h:Fn E f args R) (hR:∀ x lv,R x lv -> R' x lv):Fn E f args R' :=
 fun C w vs h1 h2 h0 h3 h4 => (h C w vs h1 h2 h0 h3 h4).mono fun _ _ ⟨u,x,bx,live,C',e1,e2,e3,e4,e5⟩ => ⟨u,x,bx,live,C',e1,hR _ _ e2,e3,e4,e5⟩
theorem Rep.frame {E:Env} {B:Base} {C C':Cx} {s s':St} {a:Act} {w w':World} (h:Rep E B C s a w) (hi:Inv E.NG E.T C' s'.bx (· ∈ s'.live) w') (hnt:C'.nt = s'.nt) (hn2:2 <= s'.nt) (htm:s'.tm = s.tm) (hC:CxLe C C') (hF:Fix C w w') (he:Ext B.C B.w C' s'.bx.length (· ∈ s'.live) w'):Rep E B C' s' a w' :=
 ⟨hi,hnt,hn2,he,h.size,h.defers,fun t => by rw [htm]; exact (h.tm t).frame hC hF⟩
theorem Rep.put {E:Env} {B:Base} {C:Cx} {s:St} {a:Act} {w:World} (h:Rep E B C s a w) {d:Option Nat} (hd:∀ t,d = some t -> t < B.n) {v:PV} {u:Value} (hv:RpV C w v u):Rep E B C (s.put d v) (a.put d u) w:=by
 cases d with
 | none => exact h
 | some d =>
  refine ⟨h.inv,h.nt,h.n2,h.ext,by simp only [Act.put]; rw [Array.size_setIfInBounds]; exact h.size,h.defers,fun t => ?_⟩;simp only [St.put,Act.put];by_cases ht:t = d
  ·subst ht
   have hlt:t < a.tmps.size:=by rw [h.size]; exact hd t rfl
   rw [if_pos rfl];simp [Array.getD,hlt]; exact hv
  ·rw [if_neg ht]
   have:=h.tm t
   have hg:(a.tmps.setIfInBounds d u).getD t undef = a.tmps.getD t undef:=by
    rw [Array.getD_eq_getD_getElem?,Array.getD_eq_getD_getElem?,Array.getElem?_setIfInBounds_ne (by omega)]
   rw [hg]; exact this
theorem Rep.ro {E:Env} {B:Base} {C:Cx} {s:St} {a:Act} {w:World} (h:Rep E B C s a w):Ro C w a.eval (ev s.tm):=by
 intro x m hm
 cases x with
 | tmp t => simp only [trX,sI] at hm; subst hm; exact h.tm t
 | const v =>
  simp only [trX] at hm
  split at hm
  ·rename_i hc; simp only [sI] at hm; subst hm; exact ofV_rp hc
  ·cases hm
 | global g => simp [trX] at hm
 | func f => simp only [trX,sI] at hm; subst hm; exact .fn f [] [] rfl (fun j x y h => by simp at h)
def Cx.sub (C:Cx):Cx:={ C with nb:=0,nt:=2,old:=fun _ => False }
theorem Cx.sub_old (C:Cx):∀ t,¬ C.sub.old t:=fun _ h => h
theorem Inv.sub {NG:Nat} {T:World -> Prop} {C:Cx} {bx:LP PC} {live:Nat -> Prop} {w:World} (h:Inv NG T C bx live w):Inv NG T C.sub [] (fun _ => False) w :=
 ⟨rfl,fun p cs hp => by simp at hp,fun p hp => by simp at hp,fun p hp => by simp at hp,fun p q hp => by simp at hp,fun t ht => ht.elim,fun t s b ht => ht.elim,h.fin,h.ng,h.t⟩
def Cx.join (C C':Cx):Cx :=
 { F:=C'.F,nb:=C.nb,bx:=C.bx,nt:=C.nt + C'.nt,tk:=fun t => if t < C.nt then C.tk t else C'.tk (t - C.nt),cp:=fun t => if t < C.nt then C.cp t else C'.cp (t - C.nt),tl:=fun t => if t < C.nt then C.tl t else C'.tl (t - C.nt),tn:=fun t => if t < C.nt then C.tn t else C'.tn (t - C.nt),old:=C.old }
theorem Cx.join_le {C C':Cx} (hF:∀ b o,C.F b o -> C'.F b o):CxLe C (C.join C') :=
 ⟨hF,lR,fun _ _ => rfl,Nat.le_add_right _ _,fun t ht => by simp only [Cx.join]; rw [if_pos ht,if_pos ht,if_pos ht,if_pos ht]; exact ⟨rfl,rfl,rfl,rfl⟩⟩
theorem Cx.join_sh {C C':Cx}:ShLe C' (C.join C') C.nt :=
 ⟨fun _ _ h => h,by simp only [Cx.join]; omega,fun t h2 ht => by
  have:¬ t + C.nt < C.nt:=by omega
  simp only [Cx.join]; rw [if_neg this,if_neg this,if_neg this,if_neg this,Nat.add_sub_cancel]; exact ⟨rfl,rfl,rfl,rfl⟩⟩
theorem Inv.join {NG:Nat} {T:World -> Prop} {C C':Cx} {bx bx':LP PC} {live:List Nat} {live':Nat -> Prop} {w w':World} (h:Inv NG T C bx (· ∈ live) w) (h':Inv NG T C' bx' live' w') (hE:Ext C.sub w C' bx'.length live' w')
  (L:List Nat) (hL:∀ t ∈ L,live' t):Inv NG T (C.join C') bx (· ∈ L.map (· + C.nt) ++ live) w' /\ Fix C w w':=by
 have hFix:Fix C w w':=.of hE.fix.1 fun k hlt => hE.block0 C.sub_old _ hlt (fun p hp => by simp [Cx.sub] at hp)
 have hle:CxLe C (C.join C'):=Cx.join_le hE.F;have hold:∀ k,k < w.heap.size -> w'.heap[k]? = w.heap[k]?:=fun k hk => hE.block0 C.sub_old k hk (fun p hp => by simp [Cx.sub] at hp)
 have hsh:=Cx.join_sh (C:=C) (C':=C');have hFo:∀ b o,b < w.heap.size -> C'.F b o -> C.F b o:=fun b o hb hF => (hE.newF0 C.sub_old b o hF).resolve_right (by omega)
 have hcase:∀ t,t ∈ L.map (· + C.nt) ++ live -> (∃ t',t = t' + C.nt /\ live' t') \/ t ∈ live:=by
  intro t ht
  rcases mem_append.1 ht with ht | ht
  ·obtain ⟨t',h1,rfl⟩:=mem_map.1 ht; exact .inl ⟨t',rfl,hL t' h1⟩
  ·exact .inr ht
 refine ⟨⟨h.nb,?_,fun p hp o hF => h.boxF p hp o (hFo _ _ (h.lt hp) hF),h.boxG,h.inj,?_,?_,h'.fin,by have:=h.ng; have:=hE.size; omega,h'.t⟩,hFix⟩
 ·intro p cs hp
  obtain ⟨vs,e,hh,hl⟩:=h.box p cs hp;exact ⟨vs,e,by show w'.heap[C.bx p]? = _; rw [hold _ (zao hh)]; exact hh,hl.frame hle hFix⟩
 ·intro t ht
  rcases hcase t ht with ⟨t',rfl,hl'⟩ | ht
  ·obtain ⟨a1,a2,a3⟩:=h'.tok t' hl'
   obtain ⟨e1,e2,e3,e4⟩:=hsh.tk t' a1 a2;refine ⟨by omega,by simp only [Cx.join]; omega,?_⟩;rw [e1,e2,e3,e4];refine a3.imp id ?_;rintro ⟨b,cur,e,c1,c2,c3,c4,c5,c6,c7,cz,c8,c9⟩;refine ⟨b,cur,e,c1,c2,c3,c4,c5,c6,c7,cz,c8,fun p hp he => ?_⟩;have h1:=h.lt hp;have h2:=hE.newT0 C.sub_old t' b hl' c1;have h3:(C.join C').bx p = C.bx p:=rfl;omega
  ·obtain ⟨a1,a2,a3⟩:=h.tok t ht
   obtain ⟨e1,e2,e3,e4⟩:=hle.tk t a2;refine ⟨a1,Nat.lt_of_lt_of_le a2 hle.nt,?_⟩;rw [e1,e2,e3,e4];refine a3.imp id ?_;rintro ⟨b,cur,e,c1,c2,c3,c4,c5,c6,c7,cz,c8,c9⟩;exact ⟨b,cur,e,c1,c2,by rw [hold b (zao c3)]; exact c3,c4,c5,c6,c7,cz,fun o hF => c8 o (hFo b o (zao c3) hF),c9⟩
 ·intro t s b ht hs hb hb'
  have low:∀ t,t ∈ live -> ∀ b,(C.join C').tk t = some b -> C.tk t = some b /\ b < w.heap.size:=by
   intro t ht b hb;obtain ⟨a1,a2,a3⟩:=h.tok t ht;rw [(hle.tk t a2).1] at hb
   rcases a3 with ⟨k,_⟩ | ⟨b',cur,e,c1,_,c3,_⟩
   ·rw [k] at hb; cases hb
   ·have:b' = b:=by rw [c1] at hb; simpa using hb
    subst this; exact ⟨hb,zao c3⟩
  have high:∀ t',live' t' -> ∀ b,(C.join C').tk (t' + C.nt) = some b -> C'.tk t' = some b /\ w.heap.size <= b:=by
   intro t' hl' b hb;obtain ⟨a1,a2,_⟩:=h'.tok t' hl';rw [(hsh.tk t' a1 a2).1] at hb;exact ⟨hb,hE.newT0 C.sub_old t' b hl' hb⟩
  rcases hcase t ht with ⟨t',rfl,hl⟩ | ht <;> rcases hcase s hs with ⟨s',rfl,hl2⟩ | hs
  ·rw [h'.tinj t' s' b hl hl2 (high t' hl b hb).1 (high s' hl2 b hb').1]
  ·have h1:=(high t' hl b hb).2; have h2:=(low s hs b hb').2; omega
  ·have h1:=(high s' hl2 b hb').2; have h2:=(low t ht b hb).2; omega
  ·exact h.tinj t s b ht hs (low t ht b hb).1 (low s hs b hb').1
theorem Ext.join {C0 C C':Cx} {w0 w w':World} {bx':LP PC} {live:List Nat} {live':Nat -> Prop} {nb:Nat} {NG:Nat} {T:World -> Prop} {bx:LP PC} (h:Ext C0 w0 C nb (· ∈ live) w) (hI:Inv NG T C bx (· ∈ live) w) (h':Inv NG T C' bx' live' w') (hE:Ext C.sub w C' bx'.length live' w') (L:List Nat) (hL:∀ t ∈ L,live' t) :
  Ext C0 w0 (C.join C') nb (· ∈ L.map (· + C.nt) ++ live) w':=by
 have hle:CxLe C (C.join C'):=Cx.join_le hE.F;refine h.step hle (.of hE.fix.1 fun k hlt => hE.block0 C.sub_old _ hlt (fun p hp => by simp [Cx.sub] at hp)) hE.os hE.tape hE.output hE.size (fun k hk _ _ => hE.block0 C.sub_old k (by have:=h.size; omega) (fun p hp => by simp [Cx.sub] at hp)) (fun b o hF => (hE.newF0 C.sub_old b o hF).imp id (fun hb => by have:=h.size; omega)) ?_ (fun p hp hp2 => h.newB p hp hp2);intro t b ht hb
 rcases mem_append.1 ht with ht | ht
 ·obtain ⟨t',h1,rfl⟩:=mem_map.1 ht
  have hl':=hL t' h1;obtain ⟨a1,a2,_⟩:=h'.tok t' hl';rw [((Cx.join_sh (C:=C) (C':=C')).tk t' a1 a2).1] at hb
  have:=hE.newT0 C.sub_old t' b hl' hb; have:=h.size; omega
 ·rw [(hle.tk t (hI.tok t ht).2.1).1] at hb; exact h.newT t b ht hb
theorem call_er {E:Env} {B:Base} {C:Cx} {s:St} {a:Act} {w:World} (h:Rep E B C s a w) {f:Nat} {xs args:List PV} {vs:List Value} (hl:vs.length = xs.length) (hx:∀ (j:Nat) (x:PV) (y:Value),xs[j]? = some x -> vs[j]? = some y -> RpV C w x y)
  (hd:PV.dats xs = some args) {R:PV -> (Nat -> Prop) -> Prop} (hF:Fn E f args R):Calls E.P f vs.toArray w fun e w' => ∃ u x lv,e = .returned u /\ R x lv /\ ∀ y,x.dat = some y -> ∃ C',Rep E B C' s a w' /\ RpV C' w' y u:=by
 obtain ⟨k1,k2⟩:=PV.dats_some hd;refine (hF C.sub w vs h.inv.sub rfl C.sub_old (by rw [hl,k1]) (fun j x y hj hy => ?_)).mono ?_
 ·obtain ⟨v0,hv0,hvd⟩:=k2 j x hj
  exact (hx j v0 y hv0 hy).toDat (show ∀ b o,C.F b o -> C.sub.F b o from fun _ _ h => h) hvd
 ·rintro e w' ⟨u,x,bx,live,C',rfl,hR,hi,he,hv⟩
  refine ⟨u,x,live,rfl,hR,fun y hy => ?_⟩
  -- the caller's names alone
  obtain ⟨C2,hC2⟩:∃ C2:Cx,C2 = { C with F:=C'.F }:=⟨_,rfl⟩;obtain ⟨j1,j2⟩:=h.inv.join hi he [] (by simp);have hle:CxLe C C2:=by rw [hC2]; exact ⟨he.F,lR,fun _ _ => rfl,lR,fun _ _ => ⟨rfl,rfl,rfl,rfl⟩⟩
  have hi2:Inv E.NG E.T C2 s.bx (· ∈ s.live) w':=by
   have htk:∀ t,t ∈ s.live -> C2.tk t = (C.join C').tk t /\ C2.cp t = (C.join C').cp t /\ C2.tl t = (C.join C').tl t /\ C2.tn t = (C.join C').tn t:=by
    intro t ht
    have:=(Cx.join_le (C:=C) (C':=C') he.F).tk t (h.inv.tok t ht).2.1
    rw [hC2]; exact ⟨this.1.symm,this.2.1.symm,this.2.2.1.symm,this.2.2.2.symm⟩
   refine ⟨by rw [hC2]; exact h.inv.nb,?_,by rw [hC2]; exact j1.boxF,by rw [hC2]; exact h.inv.boxG,by rw [hC2]; exact h.inv.inj,?_,?_,by rw [hC2]; exact hi.fin,j1.ng,j1.t⟩
   ·intro p cs hp
    obtain ⟨us,e',hh,hl'⟩:=h.inv.box p cs hp;obtain ⟨us2,e2,hh2,_⟩:=j1.box p cs hp
    have:C2.bx p = C.bx p:=by rw [hC2]
    refine ⟨us,e',?_,hl'.frame hle j2⟩;rw [this,he.block0 C.sub_old _ (zao hh) (fun p hp => by simp [Cx.sub] at hp)]; exact hh
   ·intro t ht
    obtain ⟨a1,a2,a3⟩:=j1.tok t (by simpa using ht);obtain ⟨e1,e2,e3,e4⟩:=htk t ht;refine ⟨a1,by rw [hC2]; exact (h.inv.tok t ht).2.1,?_⟩;rw [e1,e2,e3,e4]
    have:C2.F = (C.join C').F:=by rw [hC2]; rfl
    have hb:C2.bx = (C.join C').bx:=by rw [hC2]; rfl
    rw [this,hb]; exact a3
   ·intro t s' b ht hs hb hb'
    rw [(htk t ht).1] at hb; rw [(htk s' hs).1] at hb'
    exact j1.tinj t s' b (by simpa using ht) (by simpa using hs) hb hb'
  have hext:Ext B.C B.w C2 s.bx.length (· ∈ s.live) w' :=
   h.ext.step hle j2 he.os he.tape he.output he.size (fun k hk _ _ => he.block0 C.sub_old k (by have:=h.ext.size; omega) (fun p hp => by simp [Cx.sub] at hp)) (fun b o hF => by rw [hC2] at hF; exact (he.newF0 C.sub_old b o hF).imp id (fun hb => by have:=h.ext.size; omega))
    (fun t b ht hb => by rw [hC2] at hb; exact h.ext.newT t b ht hb) (fun p hp hp2 => by rw [hC2]; exact h.ext.newB p hp hp2)
  exact ⟨C2,h.frame hi2 (by rw [hC2]; exact h.nt) h.n2 rfl hle j2 hext,hv.toDat (fun b o hF => by rw [hC2]; exact hF) hy⟩
theorem call_own {E:Env} {B:Base} {C:Cx} {s:St} {a:Act} {w:World} (h:Rep E B C s a w) {f:Nat} {xs args:List PV} {vs:List Value} (hl:vs.length = xs.length) (hx:∀ (j:Nat) (x:PV) (y:Value),xs[j]? = some x -> vs[j]? = some y -> RpV C w x y)
  (hd:PV.dats xs = some args) {R:PV -> (Nat -> Prop) -> Prop} (hF:Fn E f args R):Calls E.P f vs.toArray w fun e w' => ∃ u x lv k,e = .returned u /\ R x lv /\ 2 <= k /\ (∀ t,lv t -> t < k) /\ ∀ y,x.shf s.nt = some y -> (∀ t ∈ x.toks,lv t) -> ∃ C',Rep E B C' { s with nt:=s.nt + k,live:=x.toks.map (· + s.nt) ++ s.live } a w' /\ RpV C' w' y u:=by
 obtain ⟨k1,k2⟩:=PV.dats_some hd;refine (hF C.sub w vs h.inv.sub rfl C.sub_old (by rw [hl,k1]) (fun j x y hj hy => ?_)).mono ?_
 ·obtain ⟨v0,hv0,hvd⟩:=k2 j x hj
  exact (hx j v0 y hv0 hy).toDat (show ∀ b o,C.F b o -> C.sub.F b o from fun _ _ h => h) hvd
 ·rintro e w' ⟨u,x,bx,live,C',rfl,hR,hi,he,hv⟩
  refine ⟨u,x,live,C'.nt + 2,rfl,hR,by omega,fun t ht => by have:=(hi.tok t ht).2.1; omega,fun y hy hlive => ?_⟩;obtain ⟨j1,j2⟩:=h.inv.join hi he x.toks hlive;have j3:=h.ext.join h.inv hi he x.toks hlive;have hle:CxLe C (C.join C'):=Cx.join_le he.F;have hnt:=h.nt
  -- two names to spare
  obtain ⟨C2,hC2⟩:∃ C2:Cx,C2 = { C.join C' with nt:=C.nt + C'.nt + 2 }:=⟨_,rfl⟩;have hle2:CxLe (C.join C') C2:=by rw [hC2]; exact ⟨fun _ _ h => h,lR,fun _ _ => rfl,by simp only [Cx.join]; omega,fun _ _ => ⟨rfl,rfl,rfl,rfl⟩⟩
  have hfix:=Fix.refl (C.join C') w'
  have hi2:Inv E.NG E.T C2 s.bx (· ∈ x.toks.map (· + C.nt) ++ s.live) w':=by
   refine ⟨by rw [hC2]; exact j1.nb,fun p cs hp => ?_,by rw [hC2]; exact j1.boxF,by rw [hC2]; exact j1.boxG,by rw [hC2]; exact j1.inj,fun t ht => ?_,by rw [hC2]; exact j1.tinj,by rw [hC2]; exact j1.fin,j1.ng,j1.t⟩
   ·obtain ⟨us,e',hh,hl'⟩:=j1.box p cs hp
    exact ⟨us,e',by rw [hC2]; exact hh,hl'.frame hle2 hfix⟩
   ·obtain ⟨a1,a2,a3⟩:=j1.tok t ht
    exact ⟨a1,Nat.lt_of_lt_of_le a2 hle2.nt,by rw [hC2]; exact a3⟩
  rw [hnt] at hi2;refine ⟨C2,h.frame (s':={ s with nt:=s.nt + (C'.nt + 2),live:=x.toks.map (· + s.nt) ++ s.live }) hi2 (by rw [hC2]; show C.nt + C'.nt + 2 = s.nt + (C'.nt + 2); omega) (by show 2 <= s.nt + _; have:=h.n2; omega) rfl (hle.trans hle2) j2 (by rw [hC2]; rw [hnt] at j3; exact ⟨j3.os,j3.tape,j3.output,j3.size,j3.F,j3.fix,j3.block,j3.bx,j3.newF,j3.newT,j3.newB,⟨by have:=j3.tk.1; simp only [Cx.join] at this ⊢; omega,j3.tk.2⟩⟩),?_⟩;rw [<- hnt] at hy;exact (hv.toShf Cx.join_sh hy).frame hle2 hfix
theorem Ext.le {C0 C:Cx} {w0 w:World} {nb:Nat} {live:Nat -> Prop} (h:Ext C0 w0 C nb live w):CxLe C0 C:=⟨h.F,h.bx.1,h.bx.2,h.tk.1,h.tk.2⟩
def Cx.mark (C:Cx) (live:Nat -> Prop):Cx:={ C with old:=live }
theorem Cx.le_mark (C:Cx) (live:Nat -> Prop):CxLe C (C.mark live):=⟨fun _ _ h => h,lR,fun _ _ => rfl,lR,fun _ _ => ⟨rfl,rfl,rfl,rfl⟩⟩
theorem Inv.mark {NG:Nat} {T:World -> Prop} {C:Cx} {bx:LP PC} {live:Nat -> Prop} {w:World} (h:Inv NG T C bx live w):Inv NG T (C.mark live) bx live w :=
 ⟨h.nb,fun p cs hp => by
  obtain ⟨vs,e,h1,h2⟩:=h.box p cs hp;exact ⟨vs,e,h1,h2.frame (C.le_mark live) (Fix.refl _ _)⟩,h.boxF,h.boxG,h.inj,h.tok,h.tinj,h.fin,h.ng,h.t⟩
theorem Ext.over {C0 C C':Cx} {w0 w w':World} {nb nb':Nat} {live live':Nat -> Prop} (h:Ext C0 w0 C nb live w) (k:Ext (C.mark live) w C' nb' live' w') (hnb:C.nb = nb):Ext C0 w0 C' nb' live' w':=by
 refine ⟨k.os.trans h.os,k.tape.trans h.tape,k.output.trans h.output,Nat.le_trans h.size k.size,fun b o x => k.F b o (h.F b o x),⟨fun b o x => (k.fix.1 b o (h.F b o x)).trans (h.fix.1 b o x),fun q T cs fz hh => by
  obtain ⟨cs1,fz1,h1'⟩:=h.fix.2 q T cs fz hh;exact k.fix.2 q T cs1 fz1 h1'⟩,fun q hq hp ho => ?_,?_,fun b o hF => ?_,fun t b ht hb => ?_,fun p hp hp2 => ?_,?_⟩
 ·refine (k.block q (Nat.lt_of_lt_of_le hq h.size) (fun p hp' he => ?_) (fun t ht htk => ?_)).trans (h.block q hq hp ho)
  ·have hp'':p < C.nb:=hp'
   have he':C.bx p = q:=he;by_cases hpn:p < C0.nb
   ·exact hp p hpn (by rw [<- h.bx.2 p hpn]; exact he')
   ·have:=h.newB p (by omega) (by omega); omega
  ·rcases h.newT t q ht htk with h1 | ⟨s,h1,h2⟩
   ·omega
   ·exact ho s h1 h2
 ·refine ⟨Nat.le_trans h.bx.1 k.bx.1,fun p hp => (k.bx.2 p (Nat.lt_of_lt_of_le hp h.bx.1)).trans (h.bx.2 p hp)⟩
 ·rcases k.newF b o hF with h1 | h1 | ⟨s,h1,h2⟩
  ·exact h.newF b o h1
  ·exact .inr (.inl (Nat.le_trans h.size h1))
  ·exact .inr (h.newT s b h1 h2)
 ·rcases k.newT t b ht hb with h1 | ⟨s,h1,h2⟩
  ·exact .inl (Nat.le_trans h.size h1)
  ·exact h.newT s b h1 h2
 ·by_cases hpn:p < C.nb
  ·have e:C'.bx p = C.bx p:=k.bx.2 p hpn
   rw [e]; exact h.newB p hp (by omega)
  ·exact Nat.le_trans h.size (k.newB p (by show C.nb <= p; omega) hp2)
 ·refine ⟨Nat.le_trans h.tk.1 k.tk.1,fun t ht => ?_⟩
  obtain ⟨a1,a2,a3,a4⟩:=h.tk.2 t ht;obtain ⟨b1,b2,b3,b4⟩:=k.tk.2 t (Nat.lt_of_lt_of_le ht h.tk.1);exact ⟨b1.trans a1,b2.trans a2,b3.trans a3,b4.trans a4⟩
def FnG (E:Env) (f:Nat) (args:List PV) (bx:LP PC) (nt:Nat) (live:List Nat) (R:PV -> LP PC -> Nat -> List Nat -> Prop):Prop :=
 ∀ (C:Cx) (w:World) (vs:List Value),Inv E.NG E.T C bx (· ∈ live) w -> C.nt = nt -> C.old = (· ∈ live) -> 2 <= nt -> vs.length = args.length -> (∀ (j:Nat) (x:PV) (y:Value),args[j]? = some x -> vs[j]? = some y -> RpV C w x y) ->
  Calls E.P f vs.toArray w fun e w' => ∃ u x bx' nt' live' C',e = .returned u /\ R x bx' nt' live' /\ Inv E.NG E.T C' bx' (· ∈ live') w' /\ C'.nt = nt' /\ Ext C w C' bx'.length (· ∈ live') w' /\ RpV C' w' x u
theorem call_g {E:Env} {B:Base} {C:Cx} {s:St} {a:Act} {w:World} (h:Rep E B C s a w) {f:Nat} {xs:List PV} {vs:List Value} (hl:vs.length = xs.length) (hx:∀ (j:Nat) (x:PV) (y:Value),xs[j]? = some x -> vs[j]? = some y -> RpV C w x y)
  {R:PV -> LP PC -> Nat -> List Nat -> Prop} (hF:FnG E f xs s.bx s.nt s.live R):Calls E.P f vs.toArray w fun e w' => ∃ u x bx' nt' live' C',e = .returned u /\ R x bx' nt' live' /\ Rep E B C' ⟨s.tm,bx',nt',live'⟩ a w' /\ RpV C' w' x u:=by
 refine (hF (C.mark (· ∈ s.live)) w vs h.inv.mark h.nt rfl h.n2 hl (fun j x y h1 h2 => (hx j x y h1 h2).frame (C.le_mark _) (Fix.refl _ _))).mono ?_;rintro e w' ⟨u,x,bx',nt',live',C',rfl,hR,hi,hnt,he,hv⟩;refine ⟨u,x,bx',nt',live',C',rfl,hR,⟨hi,hnt,?_,h.ext.over he h.inv.nb,h.size,h.defers,fun t => (h.tm t).frame ((C.le_mark _).trans he.le) he.fix⟩,hv⟩;have h1:=he.tk.1; have h2:=h.n2; have h3:=h.nt
 have h4:(C.mark (· ∈ s.live)).nt = C.nt:=rfl;show 2 <= nt'; omega
end
section
def AppB (n len cap:Nat) (z:List PC) (ds:LP PC) (p:Nat) (bx:LP PC) (p' cap':Nat) (bx':LP PC):Prop :=
 (p' = p /\ cap' = cap /\ len + ds.length <= cap /\ bx' = bx.set p (spl z (n * len) ds.flatten)) \/
 (p' = bx.length /\ len + ds.length <= cap' /\ ∃ r:List PC,r.length = n * (cap' - (len + ds.length)) /\ bx' = bx ++ [z.take (n * len) ++ ds.flatten ++ r])
section
variable {P:Program} {NG:Nat} {T:World -> Prop}
theorem za3 {z:Value} (h:z.cells.toList.all (·.oneCell') = true) (n:Nat):∀ v ∈ (Builtin.zeroCells z.cells n).toList,v.oneCell' = true:=by
 intro v hv;simp only [Builtin.zeroCells,Array.toList_map,Array.toList_range,mem_map,mem_range] at hv;obtain ⟨i,hi,rfl⟩:=hv
 have hs:0 < z.cells.size:=by
  rcases Nat.eq_zero_or_pos z.cells.size with h0 | h0
  ·rw [h0] at hi; simp at hi
  ·exact h0
 have hlt:i % z.cells.size < z.cells.size:=Nat.mod_lt _ hs;rw [getElem!_pos z.cells (i % z.cells.size) hlt];exact all_eq_true.1 h _ (Array.mem_toList_iff.2 (Array.getElem_mem hlt))
theorem Inv.sameHeap (hL:Low NG T) {C:Cx} {bx:LP PC} {live:Nat -> Prop} {w w':World} (h:Inv NG T C bx live w) (hh:w'.heap = w.heap):Inv NG T C bx live w' /\ Fix C w w':=by
 have hk:∀ k:Nat,w'.heap[k]? = w.heap[k]?:=fun k => by rw [hh]
 have hF:Fix C w w':=.of (fun b o _ => World.cell?_of_block (a:=⟨b,o,none⟩) (hk b)) (fun k _ => hk k);refine ⟨⟨h.nb,fun p cs hp => ?_,h.boxF,h.boxG,h.inj,fun t ht => ?_,h.tinj,fun b o hf => by rw [hh]; exact h.fin b o hf,by rw [hh]; exact h.ng,hL w w' h.t (by rw [hh]; exact lR) fun k _ => hk k⟩,hF⟩
 ·obtain ⟨vs,e,h1,h2⟩:=h.box p cs hp
  exact ⟨vs,e,(hk _).trans h1,h2.frame (CxLe.refl C) hF⟩
 ·obtain ⟨a1,a2,a3⟩:=h.tok t ht
  refine ⟨a1,a2,a3.imp id ?_⟩;rintro ⟨b,cur,e,c1,c2,c3,rest⟩;exact ⟨b,cur,e,c1,c2,(hk b).trans c3,rest⟩
theorem newRow (hL:Low NG T) {C0 C:Cx} {w0 w:World} {bx:LP PC} {live:List Nat} (hI:Inv NG T C bx (· ∈ live) w) (hE:Ext C0 w0 C bx.length (· ∈ live) w) {cs:List PC} {us:List Value} (hl:RpL C w cs us) (e:TypeId) {len cap:Nat} (h1:len <= cap) (h2:cap <= maxLen) :
  ∃ C' w',w' = w.drew.alloc (.cells us.toArray e) /\ Inv NG T C' (bx ++ [cs]) (· ∈ live) w' /\ C'.nt = C.nt /\ CxLe C C' /\ Fix C w w' /\ Ext C0 w0 C' (bx ++ [cs]).length (· ∈ live) w' /\ RpC C' w' (.row bx.length len cap) (.slice (some ⟨w.heap.size,0,none⟩) len cap):=by
 obtain ⟨hI1,hF1⟩:=hI.sameHeap hL (w':=w.drew) rfl;obtain ⟨hI2,hF2⟩:=hI1.newBox hL (hl.frame (CxLe.refl C) hF1) e;have hle:=Cx.box_le C w.heap.size;have hnb:=hI.nb;have hold:∀ k,k < w.heap.size -> (w.drew.alloc (.cells us.toArray e)).heap[k]? = w.heap[k]?:=fun k hk => heap_alloc_old w.drew _ hk
 have hF:Fix C w (w.drew.alloc (.cells us.toArray e)):=.of (fun b o hb => World.cell?_of_block (a:=⟨b,o,none⟩) (hold b (hI.fin b o hb))) hold;refine ⟨C.box w.heap.size,_,rfl,hI2,rfl,hle,hF,hE.step hle hF rfl rfl rfl (by simp) (fun k hk _ _ => hold k (by have:=hE.size; omega)) (fun b o x => .inl x) (fun t b ht hb => hE.newT t b ht hb) (fun p hp hp2 => ?_),?_⟩
 ·by_cases hlt:p < bx.length
  ·rw [hle.bx p (by omega)]; exact hE.newB p hp hlt
  ·have:p = C.nb:=by simp at hp2; omega
   subst this; simp only [Cx.box,if_true]; exact hE.size
 ·have:=RpC.row (C:=C.box w.heap.size) (w:=w.drew.alloc (.cells us.toArray e)) bx.length len cap (by simp [Cx.box]; omega) h1 h2
  have hb:(C.box w.heap.size).bx bx.length = w.heap.size:=by simp [Cx.box,hnb]
  rw [hb] at this; exact this
theorem appR_run (hL:Low NG T) {C0 C:Cx} {w0 w:World} {bx:LP PC} {live:List Nat} (hI:Inv NG T C bx (· ∈ live) w) (hE:Ext C0 w0 C bx.length (· ∈ live) w) {t e:TypeId} {n:Nat} (he:elemT P t = some e) (hok:okElem P e n = true)
  {p len cap tk2:Nat} {z:List PC} {ds:LP PC} {y:Value} (hp:bx[p]? = some z) (hz:z.length = n * cap) (h1:len <= cap) (h2:cap <= maxLen) (hy:RpC C w (.sl tk2 ds) y) (hd0:ds ≠ []) (hlen:len + ds.length <= 4294967296) (hds:∀ d ∈ ds,d.length = n) (ty:TypeId) :
  ∃ u C' w' p' cap' bx',(Builtin.append_ #[t,t] ty #[.slice (some ⟨C.bx p,0,none⟩) len cap,y]).run P w = .ok u w' /\ AppB n len cap z ds p bx p' cap' bx' /\ Inv NG T C' bx' (· ∈ live) w' /\ C'.nt = C.nt /\ CxLe C C' /\ Fix C w w' /\ Ext C0 w0 C' bx'.length (· ∈ live) w' /\ RpC C' w' (.row p' (len + ds.length) cap') u:=by
 obtain ⟨hu,_⟩:=zaR he;obtain ⟨i,z0,hi,hz0,hsi,hby,hzs,hn⟩:=zbe hok;have hone:=zd0 hok hi hz0;subst hsi;have hbytes:∀ k,k <= 4294967296 -> k * i.bytes <= 140737488355328:=fun k hk => Nat.le_trans (Nat.mul_le_mul hk hby) (by decide)
 obtain ⟨ay,cy,rfl,_,h | ⟨b2,o2,n2,u2,rfl,k1,k2,hr2,hcell2⟩,_⟩:=sl_form hy
 ·exact absurd h hd0
 have hn2':n2 = i.size:=by
  obtain ⟨d,hd⟩:=exists_mem_of_ne_nil ds hd0;rw [<- hr2.wid d hd,hds d hd]
 subst hn2'
 obtain ⟨fy,y1,y2,y3⟩:=hr2.flat hcell2;have hfy:fy.length = ds.length * i.size:=by rw [y1,Nat.mul_comm]
 have hnews:∀ j u,fy[j]? = some u -> w.cell? ((⟨b2,o2,none⟩:Addr).add j) = some u:=fun j u hj => by rw [zav]; exact y3 j u hj
 have one2:=y2.one
 have hplt:p < bx.length:=by
  rcases Nat.lt_or_ge p bx.length with h' | h'
  ·exact h'
  ·simp [getElem?_eq_none h'] at hp
 obtain ⟨vs,e',hh,hl⟩:=hI.box p z hp;have hvl:vs.length = i.size * cap:=by rw [hl.1,hz]
 by_cases hroom:len + ds.length <= cap
 ·have hfit:len * i.size + fy.length <= vs.toArray.size:=by
   rw [hfy,<- Nat.add_mul,size_toArray,hvl,Nat.mul_comm]; exact Nat.mul_le_mul_left _ hroom
  have hrun:=zbF (P:=P) t ty e e' i hu hi (C.bx p) len cap vs.toArray hh ⟨b2,o2,none⟩ ds.length cy fy hfy hnews one2 hroom hfit;obtain ⟨w',hw'⟩:∃ w',w' = w.setRow (C.bx p) (vs.toArray.toList.take (len * i.size) ++ fy ++ vs.toArray.toList.drop (len * i.size + fy.length)).toArray:=⟨_,rfl⟩;rw [<- hw'] at hrun;simp only [] at hw'
  have hnew:w'.heap[C.bx p]? = some (.cells (vs.take (i.size * len) ++ fy ++ vs.drop (i.size * len + fy.length)).toArray e' (0,0)):=by
   rw [hw',Nat.mul_comm i.size len]; exact setRow_heap w _ _ _ e' _ hh
  have hold:∀ k,k ≠ C.bx p -> w'.heap[k]? = w.heap[k]?:=fun k hk => by rw [hw']; exact setRow_other w _ k _ hk
  have hss:w.heap.size = w'.heap.size:=by rw [hw']; simp [World.setRow]
  obtain ⟨hI',hF'⟩:=hI.write hL hplt hnew (zcl hl y2 (i.size * len)) (fun T cs0 h0 => by rw [hh] at h0; simp only [sI,Obj.cells.injEq] at h0; exact h0.2.1) hss hold;refine ⟨_,C,w',p,cap,_,hrun,.inl ⟨rfl,rfl,hroom,rfl⟩,hI',rfl,CxLe.refl C,hF',?_,.row p _ cap (by rw [hI.nb]; exact hplt) hroom h2⟩
  have hEs:∀ k,k < w0.heap.size -> (∀ p,p < C0.nb -> C0.bx p ≠ k) -> w'.heap[k]? = w.heap[k]?:=by
   intro k hk hne;refine hold k fun hkp => ?_
   by_cases hpn:p < C0.nb
   ·exact hne p hpn (by rw [<- hE.bx.2 p hpn]; exact hkp.symm)
   ·have:=hE.newB p (by omega) hplt; omega
  have:=hE.step (C':=C) (nb':=bx.length) (live':=(· ∈ live)) (CxLe.refl C) hF' (by rw [hw']; rfl) (by rw [hw']; rfl) (by rw [hw']; rfl) (by omega) (fun k hk hne _ => hEs k hk hne) (fun b o x => .inl x) hE.newT hE.newB
  simpa using this
 ·have hml:len + ds.length <= maxLen:=by unfold maxLen; omega
  have hfl:(vs.take (i.size * len)).length = len * i.size:=by
   rw [length_take,hvl,Nat.mul_comm len]; exact Nat.min_eq_left (Nat.mul_le_mul_left _ h1)
  have hrun:=run_append_grow (P:=P) w t ty e i z0 hu hi hz0 ⟨C.bx p,0,none⟩ len cap (vs.take (i.size * len)) hfl (fun j v hj => by
   rw [zav,Nat.zero_add,zae hh];rw [getElem?_take] at hj
   split at hj
   ·simpa using hj
   ·cases hj) ⟨b2,o2,none⟩ ds.length cy fy hfy hnews (by omega) (by omega) (growslice_fits (by omega) (hbytes _ hlen))
  obtain ⟨cap',hcap'⟩:∃ k,k = grownCap w (len + ds.length) cap e:=⟨_,rfl⟩;have hge:=grownCap_ge w (len + ds.length) cap e;have hcm:=grownCap_le_maxLen w (len + ds.length) cap e hml;rw [<- hcap'] at hrun hge hcm;obtain ⟨zr,hzr⟩:∃ q,q = (Builtin.zeroCells z0.cells (cap' - (len + ds.length))).toList:=⟨_,rfl⟩;have hone2:=za3 hone (cap' - (len + ds.length));rw [<- hzr] at hone2;have hzl:zr.length = i.size * (cap' - (len + ds.length)):=by rw [hzr,Array.length_toList,size_zeroCells,hzs,Nat.mul_comm]
  have hlz:RpL C w (zr.map PC.v) zr:=⟨by simp,fun j c y h1 h2 => by
   rw [getElem?_map,h2] at h1;simp only [Option.map_some,sI] at h1; subst h1
   exact .v _ (hone2 y (mem_of_getElem? h2))⟩
  have htk:RpL C w (z.take (i.size * len)) (vs.take (i.size * len)):=by
   have:=hl.slice 0 (i.size * len); simpa using this
  obtain ⟨C',w',hw',q1,q2,q3,q4,q5,q6⟩:=newRow hL hI hE ((htk.append y2).append hlz) e hge hcm;refine ⟨_,C',w',bx.length,cap',_,?_,.inr ⟨rfl,hge,zr.map PC.v,by rw [length_map]; exact hzl,rfl⟩,q1,q2,q3,q4,q5,q6⟩;rw [hrun,hw']
  congr 3
  rw [hzr];simp
theorem appN_run (hL:Low NG T) {C0 C:Cx} {w0 w:World} {bx:LP PC} {live:List Nat} (hI:Inv NG T C bx (· ∈ live) w) (hE:Ext C0 w0 C bx.length (· ∈ live) w) {t e:TypeId} {n:Nat} (he:elemT P t = some e) (hok:okElem P e n = true)
  {tk tk2:Nat} {ds:LP PC} {x y:Value} (hx:RpC C w (.sl tk []) x) (ht:tk = 1 \/ tk ∈ live) (hy:RpC C w (.sl tk2 ds) y) (hd0:ds ≠ []) (hlen:ds.length <= 4294967296) (hds:∀ d ∈ ds,d.length = n) (ty:TypeId) :
  ∃ u C' w' cap' bx',(Builtin.append_ #[t,t] ty #[x,y]).run P w = .ok u w' /\ AppB n 0 0 [] ds bx.length bx bx.length cap' bx' /\ Inv NG T C' bx' (· ∈ live) w' /\ C'.nt = C.nt /\ CxLe C C' /\ Fix C w w' /\ Ext C0 w0 C' bx'.length (· ∈ live) w' /\ RpC C' w' (.row bx.length ds.length cap') u:=by
 obtain ⟨hu,_⟩:=zaR he;obtain ⟨i,z0,hi,hz0,hsi,hby,hzs,hn⟩:=zbe hok;have hone:=zd0 hok hi hz0;subst hsi;have hbytes:∀ k,k <= 4294967296 -> k * i.bytes <= 140737488355328:=fun k hk => Nat.le_trans (Nat.mul_le_mul hk hby) (by decide)
 obtain ⟨ay,cy,rfl,_,h | ⟨b2,o2,n2,u2,rfl,k1,k2,hr2,hcell2⟩,_⟩:=sl_form hy
 ·exact absurd h hd0
 have hn2':n2 = i.size:=by
  obtain ⟨d,hd⟩:=exists_mem_of_ne_nil ds hd0;rw [<- hr2.wid d hd,hds d hd]
 subst hn2'
 obtain ⟨fy,y1,y2,y3⟩:=hr2.flat hcell2;have hfy:fy.length = ds.length * i.size:=by rw [y1,Nat.mul_comm]
 have hnews:∀ j u,fy[j]? = some u -> w.cell? ((⟨b2,o2,none⟩:Addr).add j) = some u:=fun j u hj => by rw [zav]; exact y3 j u hj
 have hm0:0 < ds.length:=by
  rcases Nat.eq_zero_or_pos ds.length with h | h
  ·exact absurd (eq_nil_of_length_eq_zero h) hd0
  ·exact h
 have hml:ds.length <= maxLen:=by unfold maxLen; omega
 have fin:∀ (old:Nat) (u:Value) (w':World),(Builtin.append_ #[t,t] ty #[x,.slice (some ⟨b2,o2,none⟩) ds.length cy]).run P w = .ok u w' -> u = .slice (some ⟨w.heap.size,0,none⟩) ds.length (grownCap w ds.length old e) ->
   w' = w.drew.alloc (.cells (fy.toArray ++ Builtin.zeroCells z0.cells (grownCap w ds.length old e - ds.length)) e) ->
   ∃ u C' w' cap' bx',(Builtin.append_ #[t,t] ty #[x,.slice (some ⟨b2,o2,none⟩) ds.length cy]).run P w = .ok u w' /\ AppB i.size 0 0 [] ds bx.length bx bx.length cap' bx' /\ Inv NG T C' bx' (· ∈ live) w' /\ C'.nt = C.nt /\ CxLe C C' /\ Fix C w w' /\ Ext C0 w0 C' bx'.length (· ∈ live) w' /\ RpC C' w' (.row bx.length ds.length cap') u:=by
  intro old u w' hrun hu' hw0;obtain ⟨cap',hcap'⟩:∃ k,k = grownCap w ds.length old e:=⟨_,rfl⟩;have hge:=grownCap_ge w ds.length old e;have hcm:=grownCap_le_maxLen w ds.length old e hml;rw [<- hcap'] at hge hcm hu' hw0;obtain ⟨zr,hzr⟩:∃ q,q = (Builtin.zeroCells z0.cells (cap' - ds.length)).toList:=⟨_,rfl⟩;have hone2:=za3 hone (cap' - ds.length);rw [<- hzr] at hone2;have hzl:zr.length = i.size * (cap' - ds.length):=by rw [hzr,Array.length_toList,size_zeroCells,hzs,Nat.mul_comm]
  have hlz:RpL C w (zr.map PC.v) zr:=⟨by simp,fun j c y h1 h2 => by
   rw [getElem?_map,h2] at h1;simp only [Option.map_some,sI] at h1; subst h1
   exact .v _ (hone2 y (mem_of_getElem? h2))⟩
  obtain ⟨C',w2,hw',q1,q2,q3,q4,q5,q6⟩:=newRow hL hI hE (y2.append hlz) e hge hcm;refine ⟨u,C',w2,cap',_,?_,.inr ⟨rfl,by rw [Nat.zero_add]; exact hge,zr.map PC.v,by rw [length_map,Nat.zero_add]; exact hzl,by simp⟩,q1,q2,q3,q4,q5,by rw [hu']; exact q6⟩;rw [hrun,hw',hw0]
  congr 3
  rw [hzr];simp
 have hX:x = .slice none 0 0 \/ ∃ b,x = .slice (some ⟨b,0,none⟩) 0 0:=by
  cases hx with
  | emp a c => rcases ht with h | h; cases h; have:=(hI.tok 0 h).1; omega
  | nil => exact .inl rfl
  | nilo t h2 _ hb => exact .inl rfl
  | rd es b o n c u hl hc hr h => rcases ht with h | h; cases h; have:=(hI.tok 0 h).1; omega
  | own t es b u h2 _ hb hlen hl hc hr h =>
   have hlv:=ht.resolve_left (by omega);obtain ⟨_,_,⟨k,_⟩ | ⟨b',cur,e',c1,c2,c3,c4,c5,c6,c7,cz,c8,c9⟩⟩:=hI.tok tk hlv
   ·rw [hb] at k; cases k
   ·have h0:=cz (by rw [<- hlen]; rfl)
    rw [h0];exact .inr ⟨b,rfl⟩
 rcases hX with rfl | ⟨b,rfl⟩
 ·have hrun:=run_append_nil (P:=P) w t ty e i z0 hu hi hz0 ⟨b2,o2,none⟩ ds.length cy fy hfy hnews hm0 (by omega) (by have:=hbytes ds.length (by omega); omega)
  exact fin 0 _ _ hrun rfl rfl
 ·have hrun:=run_append_grow (P:=P) w t ty e i z0 hu hi hz0 ⟨b,0,none⟩ 0 0 [] (by simp) (fun j v hj => by simp at hj) ⟨b2,o2,none⟩ ds.length cy fy hfy hnews (by omega) (by omega) (growslice_fits (by omega) (hbytes _ (by omega)))
  refine fin 0 _ _ hrun (by simp) (by simp)
end
section
variable {P:Program}
theorem app_tr {op:Op} {n:Nat} {x y:X} (t1:trOp P op = some (.app n x y)) :
  ∃ (t e:TypeId) (a1 b1:Operand),elemT P t = some e /\ okElem P e n = true /\ trX a1 = some x /\ trX b1 = some y /\
   ∀ (ρ:Operand -> Value) (dst ty pos after guard) (u:Value) (w w':World),(Builtin.append_ #[t,t] ty #[ρ a1,ρ b1]).run P w = .ok u w' -> (execOp ρ { dst:=dst,op:=op,type:=ty,pos:=pos,after:=after,guard:=guard }).run P w = .ok (.value u) w':=by
 cases op <;> simp only [trOp] at t1 <;> (try (cases t1; done))
 case call c =>
  obtain ⟨callee,args,argTypes⟩:=c;simp only at t1
  split at t1
  case h_6 =>
   split at t1
   ·rename_i a1 b1 t t' hargs htys
    have ea:args = #[a1,b1]:=by rw [<- Array.toArray_toList (xs:=args),hargs]
    have et:argTypes = #[t,t']:=by rw [<- Array.toArray_toList (xs:=argTypes),htys]
    subst ea; subst et
    split at t1
    ·rename_i e' he
     split at t1
     ·rename_i n' a' b' h1 h2 h3
      split at t1
      ·rename_i hok
       simp only [Bool.and_eq_true] at hok;obtain ⟨hok2,hok⟩:=hok;simp only [sI,MO.app.injEq] at t1;obtain ⟨rfl,rfl,rfl⟩:=t1;refine ⟨t,e',a1,b1,he,hok,h2,h3,fun ρ dst ty pos after guard u w w' hrun => ?_⟩;rw [<- zeR he hok2 ty] at hrun;simp [execOp,resolve,invoke,builtin,hrun]
      ·cases t1
     ·cases t1
    ·cases t1
   ·cases t1
  all_goals exfalso
  all_goals ((repeat' split at t1) <;> first | contradiction | (cases t1; done) | (simp at t1; done))
 all_goals exfalso
 all_goals ((repeat' split at t1) <;> first | contradiction | (cases t1; done) | (simp at t1; done))
end
end
section
def gd (g:Option (Nat × Bool)) (tm:Nat -> PV):Option Bool :=
 match g with
 | none => some true
 | some (t,want) =>
  match tm t with
  | .d (.v (.bool b)) => some (if want then b else !b)
  | .tup [] => some false
  | _ => none
def okFn (P:Program) (f:Nat):Bool :=
 match P.funcs[f]? with
 | some fn => !(fn.name == "runtime.NumGoroutine") && fn.body.isSome
 | none => false
def pcall (E:Env) (f:Nat) (xs:List PV) (d:Option Nat) (K:St -> Prop) (s:St):Prop :=
 ∃ args R,PV.dats xs = some args /\ Fn E f args R /\
  ((∀ x lv,R x lv -> ∃ y,x.dat = some y /\ K (s.put d y)) \/
   (∀ x lv k,R x lv -> 2 <= k -> (∀ t,lv t -> t < k) -> ∃ y,x.shf s.nt = some y /\ (∀ t ∈ x.toks,lv t) /\ K (St.put { s with nt:=s.nt + k,live:=x.toks.map (· + s.nt) ++ s.live } d y)))
def keepX (e:X -> PV) (bx bx':LP PC) (y:X):Prop:=match e y with
 | .ref p _ => bx'[p]? = bx[p]?
 | _ => True
theorem zcD (e:X -> PV) (bx:LP PC) (y:X):keepX e bx bx y:=by unfold keepX; split <;> trivial
theorem zcE (tm:Nat -> PV) (bx bx':LP PC) (k:Nat):keepX (ev tm) bx bx' (.f k):=trivial
def pcallG (E:Env) (f:Nat) (xs:List PV) (d:Option Nat) (c:List X) (K:St -> Prop) (s:St):Prop :=
 ∃ R,FnG E f xs s.bx s.nt s.live R /\ ∀ x bx nt live,R x bx nt live -> (∀ y ∈ c,keepX (ev s.tm) s.bx bx y) /\ K (St.put ⟨s.tm,bx,nt,live⟩ d x)
def MOpr.shm (m:MOpr):Bool:=match m.c with
 | .f _ :: _ => true
 | _ => false
def apartX (e:X -> PV) (a y:X):Bool :=
 match e a,e y with
 | .ref p _,.ref q _ => decide (q ≠ p)
 | .ref _ _,.pt _ => true
 | _,_ => false
def adrS:MO -> X
 | .store _ a _ => a
 | _ => .t 0
def pappB (n:Nat) (x y:X) (d:Option Nat) (c:List X) (K:St -> Prop) (s:St):Prop :=
 ∃ p len cap z tk2 ds,((ev s.tm x = .d (.row p len cap) /\ s.bx[p]? = some z /\ z.length = n * cap) \/ (∃ t0,ev s.tm x = .d (.sl t0 []) /\ (t0 = 1 \/ t0 ∈ s.live) /\ len = 0 /\ cap = 0 /\ z = [] /\ p = s.bx.length)) /\
  ev s.tm y = .d (.sl tk2 ds) /\ ds ≠ [] /\ len + ds.length <= 4294967296 /\ (∀ e ∈ ds,e.length = n) /\
  ∀ p' cap' bx',AppB n len cap z ds p s.bx p' cap' bx' -> (∀ y ∈ c,keepX (ev s.tm) s.bx bx' y) /\ K (St.put ⟨s.tm,bx',s.nt,s.live⟩ d (.d (.row p' (len + ds.length) cap')))
def pstep (E:Env) (o:MOpr) (K:St -> Prop) (s:St):Prop :=
 match o.o with
 | .call f xs => pcall E f (xs.map (ev s.tm)) o.d K s \/ (o.shm = true /\ pcallG E f (xs.map (ev s.tm)) o.d o.c K s)
 | .callv x xs => ∃ f cap,ev s.tm x = .fn f cap /\ okFn E.P f = true /\ (pcall E f (xs.map (ev s.tm) ++ cap) o.d K s \/ (o.shm = true /\ pcallG E f (xs.map (ev s.tm) ++ cap) o.d o.c K s))
 | .app n x y => (∃ v s',lf (ev s.tm) s (.app n x y) = some (v,s') /\ K (s'.put o.d v)) \/ (o.shm = true /\ pappB n x y o.d o.c K s)
 | m => (∃ v,qf (ev s.tm) s.bx m = some v /\ K (s.put o.d v)) \/ (∃ v s',lf (ev s.tm) s m = some (v,s') /\ o.c.all (apartX (ev s.tm) (adrS m)) = true /\ K (s'.put o.d v))
def po (E:Env):List MOpr -> (St -> Prop) -> St -> Prop
 | [],K,s => K s
 | o :: r,K,s => ∃ g,gd o.g s.tm = some g /\ ((g = true /\ pstep E o (po E r K) s) \/ (g = false /\ po E r K (s.put o.d (.tup []))))
def okCall (P:Program):MO -> Bool
 | .call f _ => okFn P f
 | _ => true
def trG (ops:Array Oper):Option (Nat × Bool) -> Option (Option (Nat × Bool))
 | none => some none
 | some (j,want) => ((ops[j]?).bind (·.dst)).map fun t => some (t,want)
def trOpr (P:Program) (n:Nat) (ops:Array Oper) (o:Oper):Option MOpr :=
 match trOp P o.op,trG ops o.guard with
 | some m,some g => if okCall P m && (o.dst.all fun d => decide (d < n)) then some { d:=o.dst,o:=m,g:=g } else none
 | _,_ => none
def TrO (P:Program) (n:Nat) (ops:Array Oper) (o:Oper) (mo:MOpr):Prop :=
 (trOp P o.op = some mo.o \/ ∃ k xs,trOp P o.op = some (.lit k xs) /\ mo.o = .litq k xs) /\ trG ops o.guard = some mo.g /\ mo.d = o.dst /\ okCall P mo.o = true /\ ∀ t,o.dst = some t -> t < n
theorem zbq {P:Program} {n:Nat} {ops:Array Oper} {o:Oper} {mo:MOpr} (h:trOpr P n ops o = some mo):TrO P n ops o mo:=by
 unfold trOpr at h
 split at h
 ·rename_i m g h1 h2
  split at h
  ·rename_i hc
   simp only [Bool.and_eq_true] at hc;simp only [sI] at h; subst h
   refine ⟨.inl h1,h2,rfl,hc.1,fun t ht => ?_⟩
   have:=hc.2; rw [ht] at this; simpa using this
  ·cases h
 ·cases h
section
variable {E:Env} {B:Base} {C:Cx} {s:St} {a:Act} {w:World}
theorem zbr (h:Rep E B C s a w) {ops:Array Oper} {o:Oper} {g:Option (Nat × Bool)} (hg:trG ops o.guard = some g) {b:Bool} (hb:gd g s.tm = some b):Region.wanted o (yielded ops a.tmps) = b:=by
 unfold Region.wanted
 cases ho:o.guard with
 | none =>
  rw [ho] at hg; simp only [trG,sI] at hg; subst hg
  simp only [gd,sI] at hb; subst hb; rfl
 | some jw =>
  obtain ⟨j,want⟩:=jw;rw [ho] at hg; simp only [trG] at hg
  cases ht:(ops[j]?).bind (·.dst) with
  | none => rw [ht] at hg; cases hg
  | some t =>
   rw [ht] at hg; simp only [Option.map_some,sI] at hg; subst hg
   have hr:=h.tm t;simp only [gd] at hb
   have hy:yielded ops a.tmps j = match a.tmps.getD t undef with | .bool b => some b | _ => none:=by
    unfold yielded;rw [ht,Option.bind_some,Array.getD_eq_getD_getElem?]
    cases a.tmps[t]? with
    | none => rfl
    | some v => cases v <;> rfl
   split at hb
   ·rename_i b' hv
    simp only [sI] at hb; subst hb
    rw [hv] at hr;generalize a.tmps.getD t undef = z at hr hy
    cases hr with
    | d _ _ hv => cases hv with
     | v _ _ => simp only [hy]; cases b' <;> cases want <;> rfl
   ·rename_i hv
    simp only [sI] at hb; subst hb
    rw [hv] at hr;generalize a.tmps.getD t undef = z at hr hy
    cases hr with
    | tup _ vs hl _ => simp only [hy]; rfl
   ·cases hb
theorem zbK {P:Program} {f:Nat} (h:okFn P f = true) (args:Array Value) (w:World):(callFunc f args).run P w = .ok (.enter f args) w:=by
 unfold okFn at h
 split at h
 ·rename_i fn hf
  simp only [Bool.and_eq_true,Bool.not_eq_true',beq_eq_false_iff_ne,ne_eq] at h;have h2:fn.body ≠ none:=by intro e; rw [e] at h; simp at h
  simp [callFunc,hf,h.1,h2]
 ·cases h
theorem zfL (h:Rep E B C s a w) {f:Nat} {xs:List PV} {vs:List Value} {d:Option Nat} (hd:∀ t,d = some t -> t < B.n) (hl:vs.length = xs.length) (hx:∀ (j:Nat) (x:PV) (y:Value),xs[j]? = some x -> vs[j]? = some y -> RpV C w x y) {K:St -> Prop} (hp:pcall E f xs d K s)
  {KC:Act -> World -> Prop} (hK:∀ C' s' a' w',Rep E B C' s' a' w' -> K s' -> KC a' w') (Q:Exit -> Act -> World -> Prop) :
  Calls E.P f vs.toArray w fun
   | .returned v,w'' => KC (a.put d v) w''
   | .panicked chain,w'' => Q (.panic chain) a w''
   | .outgrown,_ => LetsOut Q:=by
 obtain ⟨args,R,h1,h2,h3⟩:=hp
 rcases h3 with h3 | h3
 ·refine (call_er h hl hx h1 h2).mono ?_
  rintro e w' ⟨u,x,lv,rfl,hR,hy⟩;obtain ⟨y,hy1,hy2⟩:=h3 x lv hR;obtain ⟨C',hr,hv⟩:=hy y hy1;exact hK C' _ _ w' (hr.put hd hv) hy2
 ·refine (call_own h hl hx h1 h2).mono ?_
  rintro e w' ⟨u,x,lv,k,rfl,hR,hk,hlt,hy⟩;obtain ⟨y,hy1,hy2,hy3⟩:=h3 x lv k hR hk hlt;obtain ⟨C',hr,hv⟩:=hy y hy1 hy2;exact hK C' _ _ w' (hr.put hd hv) hy3
theorem zeS (h:Rep E B C s a w) {f:Nat} {xs:List PV} {vs:List Value} {d:Option Nat} {c:List X} (hd:∀ t,d = some t -> t < B.n) (hl:vs.length = xs.length) (hx:∀ (j:Nat) (x:PV) (y:Value),xs[j]? = some x -> vs[j]? = some y -> RpV C w x y) {K:St -> Prop} (hp:pcallG E f xs d c K s)
  {KC:Act -> World -> Prop} (hK:∀ C' s' a' w',Rep E B C' s' a' w' -> K s' -> KC a' w') (Q:Exit -> Act -> World -> Prop) :
  Calls E.P f vs.toArray w fun
   | .returned v,w'' => KC (a.put d v) w''
   | .panicked chain,w'' => Q (.panic chain) a w''
   | .outgrown,_ => LetsOut Q:=by
 obtain ⟨R,h1,h2⟩:=hp;refine (call_g h hl hx h1).mono ?_;rintro e w' ⟨u,x,bx',nt',live',C',rfl,hR,hr,hv⟩;exact hK C' _ _ w' (hr.put hd hv) (h2 x bx' nt' live' hR).2
theorem zcR (h:Rep E B C s a w) {f:Nat} {xs:List PV} {vs:List Value} {d:Option Nat} {c:List X} {b:Bool} (hd:∀ t,d = some t -> t < B.n) (hl:vs.length = xs.length) (hx:∀ (j:Nat) (x:PV) (y:Value),xs[j]? = some x -> vs[j]? = some y -> RpV C w x y) {K:St -> Prop} (hp:pcall E f xs d K s \/ (b = true /\ pcallG E f xs d c K s))
  {KC:Act -> World -> Prop} (hK:∀ C' s' a' w',Rep E B C' s' a' w' -> K s' -> KC a' w') (Q:Exit -> Act -> World -> Prop) :
  Calls E.P f vs.toArray w fun
   | .returned v,w'' => KC (a.put d v) w''
   | .panicked chain,w'' => Q (.panic chain) a w''
   | .outgrown,_ => LetsOut Q:=hp.elim (fun hp => zfL h hd hl hx hp hK Q) fun hp => zeS h hd hl hx hp.2 hK Q
theorem zfM (h:Rep E B C s a w) {l:List Operand} {xs:List X} (hx:trXs l = some xs):(l.map a.eval).length = (xs.map (ev s.tm)).length /\ ∀ (j:Nat) (x:PV) (y:Value),(xs.map (ev s.tm))[j]? = some x -> (l.map a.eval)[j]? = some y -> RpV C w x y:=by
 obtain ⟨k1,k2⟩:=zdg hx;refine ⟨by simp [k1],fun j x y h1 h2 => ?_⟩;rw [getElem?_map] at h1 h2
 cases hl:l[j]? with
 | none => rw [hl] at h2; cases h2
 | some o =>
  obtain ⟨z,hz1,hz2⟩:=k2 j o hl;rw [hl] at h2; rw [hz1] at h1
  simp only [Option.map_some,sI] at h1 h2; subst h1; subst h2
  exact h.ro o z hz2
theorem lit_run {P:Program} {C:Cx} {w:World} {ρ:Operand -> Value} {e:X -> PV} (hρ:Ro C w ρ e) {o:Oper} {n:Nat} {xs:List X} (ht:trOp P o.op = some (.lit n xs)) {es:LP PC} (hl:litP e n xs = some es) :
  ∃ (fl:List Value) (e':TypeId),fl.length = es.length * n /\ RpL C w es.flatten fl /\ (∀ d ∈ es,d.length = n) /\ 0 < n /\ es.length <= maxLen /\
   (execOp ρ o).run P w = .ok (.value (.slice (some ⟨w.heap.size,0,none⟩) es.length es.length)) (w.alloc (.cells fl.toArray e')):=by
 obtain ⟨dst,op,ty,pos,after,guard⟩:=o;simp only at ht
 cases op <;> simp only [trOp] at ht <;> (try (cases ht; done))
 case buildSlice t len ps =>
  split at ht
  ·rename_i e' he
   split at ht
   ·rename_i n' xs' hn hxs
    split at ht
    ·rename_i hok
     simp only [Bool.and_eq_true,decide_eq_true_eq] at hok;obtain ⟨⟨hok1,hok2⟩,hok3⟩:=hok;simp only [sI,MO.lit.injEq] at ht;obtain ⟨rfl,rfl⟩:=ht;obtain ⟨hu,_⟩:=zaR he;obtain ⟨i,z,hi,hz,hsi,hby,hzs,hnp⟩:=zbe hok1;subst hsi;obtain ⟨z0,hz0⟩:∃ z0:List Value,z0 = (range (len * i.size)).map (fun q => z.cells[q % z.cells.size]!):=⟨_,rfl⟩;obtain ⟨q1,q2,fl,q3,q4⟩:=zeh hρ (n:=i.size) (k:=0) (vs:=z0) hxs hl (by rw [hz0]; simp [hok2]);rw [Nat.zero_mul,take_zero,nil_append] at q3;have hps:(ps.map fun (i,x) => (i,ρ x)).toList = ps.toList.map fun p => (p.1,ρ p.2):=by simp
     have hel:es.length = len:=by rw [q2,hok2]
     have hrun:=zbJ (P:=P) (w:=w) (parts:=ps.map fun (i,x) => (i,ρ x)) (cells:=fl.toArray) hu hi hz hok3 (by rw [hps,<- hz0]; exact q3);refine ⟨fl,e',by rw [q4.1,zaI q1,Nat.mul_comm],q4,q1,hnp,?_,?_⟩
     ·have:len <= len * i.size:=Nat.le_mul_of_pos_right _ hnp
      rw [hel]; unfold maxLen; omega
     ·rw [hel]; simp [execOp,hrun]
    ·cases ht
   ·cases ht
  ·cases ht
 all_goals exfalso
 all_goals ((repeat' split at ht) <;> first | contradiction | (cases ht; done) | (simp at ht; done))
theorem litq_sound (h:Rep E B C s a w) {o:Oper} {n:Nat} {xs:List X} (ht:trOp E.P o.op = some (.lit n xs)) {es:LP PC} (hl:litP (ev s.tm) n xs = some es) :
  ∃ u C' w',(execOp a.eval o).run E.P w = .ok (.value u) w' /\ Rep E B C' s a w' /\ RpV C' w' (.d (.sl 0 es)) u:=by
 obtain ⟨fl,e',f0,f1,f2,f3,f4,hrun⟩:=lit_run h.ro ht hl;obtain ⟨w',hw'⟩:∃ w',w' = w.alloc (.cells fl.toArray e'):=⟨_,rfl⟩;rw [<- hw'] at hrun;have hnew:w'.heap[w.heap.size]? = some (.cells fl.toArray e' (0,0)):=by rw [hw']; exact zat w _
 have hold:∀ k,k < w.heap.size -> w'.heap[k]? = w.heap[k]?:=fun k hk => by rw [hw']; exact heap_alloc_old w _ hk
 have hsz:w'.heap.size = w.heap.size + 1:=by rw [hw']; simp
 have hFix:Fix C w w':=by rw [hw']; exact zeQ h.inv.fin _
 obtain ⟨C2,hC2⟩:∃ C2:Cx,C2 = { C with F:=fun b o => C.F b o \/ (b = w.heap.size /\ o < n * es.length) }:=⟨_,rfl⟩;have hle:CxLe C C2:=by rw [hC2]; exact ⟨fun _ _ h => .inl h,lR,fun _ _ => rfl,lR,fun _ _ => ⟨rfl,rfl,rfl,rfl⟩⟩
 have hFo:∀ b o,b < w.heap.size -> C2.F b o -> C.F b o:=fun b o hb hF => by
  rw [hC2] at hF; rcases hF with hF | ⟨rfl,_⟩
  ·exact hF
  ·omega
 have hi2:Inv E.NG E.T C2 s.bx (· ∈ s.live) w':=by
  refine ⟨by rw [hC2]; exact h.inv.nb,fun p cs hp => ?_,fun p hp o hF => ?_,by rw [hC2]; exact h.inv.boxG,by rw [hC2]; exact h.inv.inj,fun t ht => ?_,by rw [hC2]; exact h.inv.tinj,fun b o hF => ?_,by have:=h.inv.ng; omega,E.low w w' h.inv.t (by omega) (fun k hk => hold k (by have:=h.inv.ng; omega))⟩
  ·obtain ⟨us,e0,hh,hl0⟩:=h.inv.box p cs hp
   exact ⟨us,e0,by rw [show C2.bx p = C.bx p by rw [hC2],hold _ (zao hh)]; exact hh,hl0.frame hle hFix⟩
  ·rw [show C2.bx p = C.bx p by rw [hC2]] at hF
   exact h.inv.boxF p hp o (hFo _ _ (h.inv.lt hp) hF)
  ·obtain ⟨a1,a2,a3⟩:=h.inv.tok t ht
   refine ⟨a1,by rw [hC2]; exact a2,?_⟩
   rcases a3 with a3 | ⟨b,cur,e,c1,c2,c3,c4,c5,c6,c7,cz,c8,c9⟩
   ·exact .inl (by rw [hC2]; exact a3)
   ·exact .inr ⟨b,cur,e,by rw [hC2]; exact c1,c2,by rw [hold b (zao c3)]; exact c3,by rw [hC2]; exact c4,by rw [hC2]; exact c5,by rw [hC2]; exact c6,by rw [hC2]; exact c7,by rw [hC2]; exact cz,fun o hF => by
     have:=c8 o (hFo b o (zao c3) hF); rw [hC2]; exact this,by rw [hC2]; exact c9⟩
  ·rw [hC2] at hF; rcases hF with hF | ⟨rfl,_⟩
   ·have:=h.inv.fin b o hF; omega
   ·omega
 have he2:Ext B.C B.w C2 s.bx.length (· ∈ s.live) w':=by
  refine h.ext.step hle hFix (by rw [hw']; rfl) (by rw [hw']; rfl) (by rw [hw']; rfl) (by omega) (fun k hk _ _ => hold k (by have:=h.ext.size; omega)) (fun b o hF => ?_) (fun t b ht hb => by rw [hC2] at hb; exact h.ext.newT t b ht hb) (fun p hp hp2 => by rw [hC2]; exact h.ext.newB p hp hp2);rw [hC2] at hF; rcases hF with hF | ⟨rfl,_⟩
  ·exact .inl hF
  ·exact .inr (.inl h.ext.size)
 refine ⟨_,C2,w',hrun,h.frame hi2 (by rw [hC2]; exact h.nt) h.n2 rfl hle hFix he2,.d _ _ ?_⟩;obtain ⟨g1,g2⟩:=RowAt.of (C:=C) (C':=C2) (w:=w) (w':=w') (b:=w.heap.size) (o:=0) f3 f2 f1 (fun q y hq => by rw [Nat.zero_add,zae hnew,<- Array.getElem?_toList]; simpa using hq) (fun q hq => by rw [hC2]; exact .inr ⟨rfl,by omega⟩);exact .rd es w.heap.size 0 n es.length _ lR f4 g1 (fun i j e y he hy => (g2 i j e y he hy).frame hle hFix)
theorem zby {ops:Array Oper} {o:Oper} {mo:MOpr} (ht:TrO E.P B.n ops o mo) (h:Rep E B C s a w) {K:St -> Prop} (hp:pstep E mo K s)
  {KC:Act -> World -> Prop} (hK:∀ C' s' a' w',Rep E B C' s' a' w' -> K s' -> KC a' w') (Q:Exit -> Act -> World -> Prop):o.wp E.P a w KC Q:=by
 obtain ⟨t1,t2,t3,t4,t5⟩:=ht;obtain ⟨d,m,g,cc⟩:=mo;simp only at t1 t2 t3 t4 hp;subst t3
 rcases t1 with t1 | ⟨k,xs,t1,rfl⟩
 case inr =>
  simp only [pstep] at hp
  rcases hp with ⟨v,hv,hk⟩ | ⟨v,s',hv,_,_⟩
  ·simp only [qf] at hv
   cases hl:litP (ev s.tm) k xs with
   | none => rw [hl] at hv; cases hv
   | some es =>
    rw [hl] at hv; simp only [Option.map_some,sI] at hv; subst hv
    obtain ⟨u,C',w',k1,k2,k3⟩:=litq_sound h t1 hl;unfold Oper.wp; rw [k1]
    exact hK C' _ _ w' (k2.put t5 k3) hk
  ·simp [lf] at hv
 have hq:∀ v,qf (ev s.tm) s.bx m = some v -> K (s.put o.dst v) -> o.wp E.P a w KC Q:=by
  intro v hv hk;obtain ⟨u,k1,k2⟩:=qf_run t1 h.ro h.inv.bo hv;unfold Oper.wp; rw [k1]
  exact hK C _ _ w (h.put t5 k2) hk
 have hlf:∀ v s',lf (ev s.tm) s m = some (v,s') -> K (s'.put o.dst v) -> o.wp E.P a w KC Q:=by
  intro v s' hv hk;obtain ⟨u,C',w',k1,k2,k3,k4,k5,k6,k7,k8,k9⟩:=lf_run E.low h.inv h.nt h.n2 h.ext t1 h.ro hv;have hr:Rep E B C' s' a w':=h.frame k2 k3 k4 k5 k6 k7 k8;unfold Oper.wp
  rcases k1 with k1 | ⟨k1,rfl⟩
  ·rw [k1]; exact hK C' _ _ w' (hr.put t5 k9) hk
  ·rw [k1]; exact hK C' _ _ w' (hr.put t5 k9) hk
 have hrest:((∃ v,qf (ev s.tm) s.bx m = some v /\ K (s.put o.dst v)) \/ (∃ v s',lf (ev s.tm) s m = some (v,s') /\ cc.all (apartX (ev s.tm) (adrS m)) = true /\ K (s'.put o.dst v))) -> o.wp E.P a w KC Q:=by
  rintro (⟨v,hv,hk⟩ | ⟨v,s',hv,_,hk⟩)
  ·exact hq v hv hk
  ·exact hlf v s' hv hk
 obtain ⟨dst,op,ty,pos,after,guard⟩:=o;simp only at t1 t5
 cases m with
 | call f xs =>
  simp only [pstep] at hp
  have hop:∃ c,op = .call c /\ c.callee = .value (.func f) /\ trXs c.args.toList = some xs:=by
   cases op <;> simp only [trOp] at t1 <;> (try (cases t1; done))
   case call c =>
    refine ⟨c,rfl,?_⟩
    split at t1
    ·rename_i f' hc
     cases hx:trXs c.args.toList with
     | none => rw [hx] at t1; cases t1
     | some ys => rw [hx] at t1; simp only [Option.map_some,sI,MO.call.injEq] at t1; obtain ⟨rfl,rfl⟩:=t1; exact ⟨hc,rfl⟩
    all_goals exfalso
    all_goals ((repeat' split at t1) <;> first | contradiction | (cases t1; done) | (simp at t1; done))
   all_goals exfalso
   all_goals ((repeat' split at t1) <;> first | contradiction | (cases t1; done) | (simp at t1; done))
  obtain ⟨c,rfl,hc,hxs⟩:=hop;obtain ⟨k1,k2⟩:=zfM h hxs
  have:=zcR h t5 k1 k2 hp hK Q
  unfold Oper.wp
  have hrun:(execOp a.eval { dst:=dst,op:=.call c,type:=ty,pos:=pos,after:=after,guard:=guard }).run E.P w = .ok (.enter f (c.args.toList.map a.eval).toArray) w:=by
   simp [execOp,resolve,hc,Act.eval,Deferred.ofValue,invoke];rw [zbK t4,<- Array.toList_map,Array.toArray_toList]
  rw [hrun]
  exact this
 | callv x xs =>
  simp only [pstep] at hp;obtain ⟨f,cap,hv,hok,hp⟩:=hp
  have hop:∃ c t,op = .call c /\ c.callee = .value (.tmp t) /\ x = .t t /\ trXs c.args.toList = some xs:=by
   cases op <;> simp only [trOp] at t1 <;> (try (cases t1; done))
   case call c =>
    split at t1
    ·cases hx:trXs c.args.toList with
     | none => rw [hx] at t1; cases t1
     | some ys => rw [hx] at t1; simp at t1
    ·rename_i t hc
     cases hx:trXs c.args.toList with
     | none => rw [hx] at t1; cases t1
     | some ys => rw [hx] at t1; simp only [Option.map_some,sI,MO.callv.injEq] at t1; obtain ⟨rfl,rfl⟩:=t1; exact ⟨c,t,rfl,hc,rfl,hx⟩
    all_goals exfalso
    all_goals ((repeat' split at t1) <;> first | contradiction | (cases t1; done) | (simp at t1; done))
   all_goals exfalso
   all_goals ((repeat' split at t1) <;> first | contradiction | (cases t1; done) | (simp at t1; done))
  obtain ⟨c,t,rfl,hc,rfl,hxs⟩:=hop;obtain ⟨k1,k2⟩:=zfM h hxs;have hr:=h.tm t;rw [show s.tm t = .fn f cap from hv] at hr;generalize hg:a.tmps.getD t undef = z at hr
  cases hr with
  | fn _ _ us hl hu =>
   have:=zcR h (vs:=c.args.toList.map a.eval ++ us) t5 (by simp only [length_append,k1,hl]) (fun j x y h1 h2 => by
    by_cases hj:j < (xs.map (ev s.tm)).length
    ·rw [getElem?_append_left hj] at h1; rw [getElem?_append_left (by rw [k1]; exact hj)] at h2; exact k2 j x y h1 h2
    ·rw [getElem?_append_right (by omega)] at h1; rw [getElem?_append_right (by rw [k1]; omega),k1] at h2; exact hu _ x y h1 h2) hp hK Q
   unfold Oper.wp
   have hrun:(execOp a.eval { dst:=dst,op:=.call c,type:=ty,pos:=pos,after:=after,guard:=guard }).run E.P w = .ok (.enter f (c.args.toList.map a.eval ++ us).toArray) w:=by
    simp only [execOp,resolve,hc,Act.eval,hg];simp [Deferred.ofValue,invoke]
    have:=zbK hok (c.args.map a.eval ++ us.toArray) w
    rw [this];simp
   rw [hrun]
   exact this
 | app n x y =>
  simp only [pstep] at hp
  rcases hp with ⟨v,s',hv,hk⟩ | ⟨_,p,len,cap,z,tk2,ds,a1,a2,a3,a4,a5,a6⟩
  ·exact hlf v s' hv hk
  ·obtain ⟨t,e,x1,y1,k1,k2,k3,k4,k5⟩:=app_tr t1
   have r1:=h.ro _ _ k3;have r2:=h.ro _ _ k4;rw [a2] at r2
   have fin:∀ u C' w' p' cap' bx',(Builtin.append_ #[t,t] ty #[a.eval x1,a.eval y1]).run E.P w = .ok u w' -> AppB n len cap z ds p s.bx p' cap' bx' -> Inv E.NG E.T C' bx' (· ∈ s.live) w' -> C'.nt = C.nt -> CxLe C C' -> Fix C w w' -> Ext B.C B.w C' bx'.length (· ∈ s.live) w' -> RpC C' w' (.row p' (len + ds.length) cap') u ->
     Oper.wp E.P { dst:=dst,op:=op,type:=ty,pos:=pos,after:=after,guard:=guard } a w KC Q:=by
    intro u C' w' p' cap' bx' q1 q2 q3 q4 q5 q6 q7 q8;unfold Oper.wp;rw [k5 a.eval dst ty pos after guard u w w' q1];have hr':Rep E B C' ⟨s.tm,bx',s.nt,s.live⟩ a w':=h.frame q3 (by rw [q4]; exact h.nt) h.n2 rfl q5 q6 q7;exact hK C' _ _ w' (hr'.put t5 (.d _ _ q8)) (a6 p' cap' bx' q2).2
   generalize hg1:a.eval x1 = g1 at r1 fin;generalize hg2:a.eval y1 = g2 at r2 fin
   cases r2 with
   | d _ _ hv2 =>
    rcases a1 with ⟨b1,b2,b3⟩ | ⟨t0,b1,b2,rfl,rfl,rfl,rfl⟩
    ·rw [b1] at r1
     cases r1 with
     | d _ _ hv1 => cases hv1 with
      | row _ _ _ q1 q2 q3 =>
       obtain ⟨u,C',w',p',cap',bx',r1,r2,r3,r4,r5,r6,r7,r8⟩:=appR_run (P:=E.P) E.low h.inv h.ext k1 k2 b2 b3 q2 q3 hv2 a3 a4 a5 ty;exact fin u C' w' p' cap' bx' r1 r2 r3 r4 r5 r6 r7 r8
    ·rw [b1] at r1
     cases r1 with
     | d _ _ hv1 =>
      obtain ⟨u,C',w',cap',bx',r1,r2,r3,r4,r5,r6,r7,r8⟩:=appN_run (P:=E.P) E.low h.inv h.ext k1 k2 hv1 b2 hv2 a3 (by omega) a5 ty
      exact fin u C' w' _ cap' bx' r1 r2 r3 r4 r5 r6 r7 (by rw [Nat.zero_add]; exact r8)
 | _ => exact hrest hp
theorem zc0 {ops:Array Oper} {Q:Exit -> Act -> World -> Prop} {K:St -> Prop}:∀ (l:List Nat) (ml:List MOpr) {C:Cx} {s:St} {a:Act} {w:World},ml.length = l.length -> (∀ (k:Nat) (i:Nat) (mo:MOpr),l[k]? = some i -> ml[k]? = some mo -> ∃ o,ops[i]? = some o /\ TrO E.P B.n ops o mo) ->
  Rep E B C s a w -> po E ml K s -> (∀ C' s' a' w',Rep E B C' s' a' w' -> K s' -> Q .normal a' w') -> wpOps E.P ops Q l a w
 | [],[],C,s,a,w,_,_,h,hp,hK => hK C s a w h hp
 | i :: l,mo :: ml,C,s,a,w,hl,ht,h,hp,hK => by
  obtain ⟨o,ho,htr⟩:=ht 0 i mo rfl rfl;obtain ⟨t1,t2,t3,t4,t5⟩:=id htr;obtain ⟨g,hg,hp⟩:=hp;have hw:=zbr h t2 hg;have hrec:=fun C' s' a' w' (hr:Rep E B C' s' a' w') (hp':po E ml K s') => zc0 l ml (by simpa using hl) (fun k i mo h1 h2 => ht (k + 1) i mo (by simpa using h1) (by simpa using h2)) hr hp' hK
  simp only [wpOps,ho,hw]
  rcases hp with ⟨rfl,hp⟩ | ⟨rfl,hp⟩
  ·rw [if_pos rfl]
   exact .inl (zby htr h hp hrec Q)
  ·rw [if_neg (by decide)]
   refine hrec C _ _ w (h.put t5 (.tup [] [] rfl (fun j x y h => by simp at h))) ?_
   rw [<- t3]; exact hp
 | [],_ :: _,_,_,_,_,hl,_,_,_,_ => by simp at hl
 | _ :: _,[],_,_,_,_,hl,_,_,_,_ => by simp at hl
end
end
section
def X.tmps:X -> List Nat
 | .t n => [n]
 | _ => []
def xsT (xs:List X):List Nat:=xs.flatMap X.tmps
def xoT:Option X -> List Nat
 | some x => x.tmps
 | none => []
def MO.tmps:MO -> List Nat
 | .mv x | .box x | .load _ _ x | .fld _ x | .field _ _ _ x | .not x | .neg x | .conv _ x | .b2s x | .len x | .lens x | .ext x _ | .nilc x => x.tmps
 | .pick c a b => c.tmps ++ (a.tmps ++ b.tmps)
 | .zero _ | .zbld .. => []
 | .build _ ps => ps.flatMap fun p => p.2.2.tmps
 | .lit _ xs | .litq _ xs | .call _ xs | .mkfn _ xs => xsT xs
 | .callv x xs => x.tmps ++ xsT xs
 | .store _ a x | .ix _ a x | .ixs a x | .bin _ _ a x | .minmax _ a x | .app _ a x => a.tmps ++ x.tmps
 | .slc _ x lo hi | .slcs x lo hi => x.tmps ++ (xoT lo ++ xoT hi)
def MO.loud:MO -> Bool
 | .box _ | .zero _ | .zbld .. | .lit .. | .app .. | .store .. | .call .. | .callv .. => true
 | _ => false
def MO.isStore:MO -> Bool
 | .store .. => true
 | _ => false
def MO.isLoad:MO -> Bool
 | .load .. => true
 | _ => false
def MO.isCall:MO -> Bool
 | .call .. | .callv .. => true
 | _ => false
def MO.isApp:MO -> Bool
 | .app .. => true
 | _ => false
def MOpr.wr (m:MOpr):Bool:=m.o.isStore || ((m.o.isCall || m.o.isApp) && m.shm)
def keepC:List X -> List X
 | .f k :: _ => [.f k]
 | _ => []
def MOpr.keep (m:MOpr):List X:=if m.o.isCall || m.o.isApp then keepC m.c else []
theorem zdj {d:Option Nat} {m:MO} {g:Option (Nat × Bool)} {c:List X} (h:MOpr.shm ⟨d,m,g,c⟩ = true):MOpr.shm ⟨d,m,g,keepC c⟩ = true:=by
 unfold MOpr.shm at h
 split at h
 ·rename_i k r hk; simp only at hk; subst hk; rfl
 ·cases h
theorem keepC_x {c:List X} {tm:Nat -> PV} {bx bx':LP PC}:∀ y ∈ keepC c,keepX (ev tm) bx bx' y:=by
 intro y hy;unfold keepC at hy
 split at hy
 ·rw [mem_singleton] at hy; subst hy; exact zcE _ _ _ _
 ·cases hy
def MOpr.tmps (m:MOpr):List Nat:=m.o.tmps ++ (match m.g with | some (t,_) => [t] | none => [])
theorem zaB {tm tm':Nat -> PV} {x:X} (h:∀ t ∈ x.tmps,tm t = tm' t):ev tm x = ev tm' x:=by
 cases x with
 | t n => exact h n (by simp [X.tmps])
 | c v => rfl
 | f n => rfl
theorem zcn {tm tm':Nat -> PV}:∀ {xs:List X},(∀ t ∈ xsT xs,tm t = tm' t) -> xs.map (ev tm) = xs.map (ev tm')
 | [],_ => rfl
 | x :: xs,h => by
  simp only [map_cons];rw [zaB (x:=x) (fun t ht => h t (by simp [xsT]; exact .inl ht)),zcn (xs:=xs) (fun t ht => h t (by simp only [xsT,flatMap_cons,mem_append]; exact .inr ht))]
theorem zdk {tm tm':Nat -> PV}:∀ {ps:List (Nat × Nat × X)} {z:List PC},(∀ t ∈ ps.flatMap (fun p => p.2.2.tmps),tm t = tm' t) -> fillP (ev tm) z ps = fillP (ev tm') z ps
 | [],_,_ => rfl
 | (o,n,x) :: ps,z,h => by
  simp only [fillP];rw [zaB (x:=x) (fun t ht => h t (by simp only [flatMap_cons,mem_append]; exact .inl ht))];have hr:=fun z => zdk (ps:=ps) (z:=z) (fun t ht => h t (by simp only [flatMap_cons,mem_append]; exact .inr ht))
  split
  ·split
   ·exact hr _
   ·rfl
  ·rfl
theorem zcF {tm tm':Nat -> PV} {n:Nat}:∀ {xs:List X},(∀ t ∈ xsT xs,tm t = tm' t) -> litP (ev tm) n xs = litP (ev tm') n xs
 | [],_ => rfl
 | x :: xs,h => by
  simp only [litP];rw [zaB (x:=x) (fun t ht => h t (by simp [xsT]; exact .inl ht)),zcF (xs:=xs) (fun t ht => h t (by simp only [xsT,flatMap_cons,mem_append]; exact .inr ht))]
theorem zbz {tm tm':Nat -> PV} {d:Nat} {x:Option X} (h:∀ t ∈ xoT x,tm t = tm' t):bound (ev tm) d x = bound (ev tm') d x:=by
 cases x with
 | none => rfl
 | some x => simp only [bound]; rw [zaB h]
theorem zco {tm tm':Nat -> PV} {bx:LP PC} {m:MO} (h:∀ t ∈ m.tmps,tm t = tm' t):qf (ev tm) bx m = qf (ev tm') bx m:=by
 cases m <;> simp only [MO.tmps,mem_append,or_imp,forall_and] at h <;> simp only [qf] <;>
  first
   | rfl
   | (rw [zaB h]; done)
   | (rw [zaB h.1,zaB h.2]; done)
   | (rw [zaB h.1,zaB h.2.1,zaB h.2.2]; done)
   | (rw [zdk (by intro t ht; exact h t ht)]; done)
   | (rw [zcn h]; done)
   | (rw [zcF h]; done)
   | (rw [zaB h.1,zbz h.2.1]; simp only [zbz h.2.2]; done)
   | (rw [zaB h.1]; simp only [zbz h.2.1,zbz h.2.2]; done)
theorem lf_congr {tm tm':Nat -> PV} {bx:LP PC} {nt:Nat} {live:List Nat} {m:MO} (h:∀ t ∈ m.tmps,tm t = tm' t) {v:PV} {s':St} (hl:lf (ev tm) ⟨tm,bx,nt,live⟩ m = some (v,s')) :
  lf (ev tm') ⟨tm',bx,nt,live⟩ m = some (v,{ s' with tm:=tm' }) /\ s'.tm = tm:=by
 rcases zbI hl with ⟨x,rfl⟩ | ⟨z,rfl⟩ | ⟨n,xs,rfl⟩ | ⟨n,a,x,rfl⟩ | ⟨n,a,x,rfl⟩ | ⟨bT,bU,rfl⟩
 ·simp only [MO.tmps] at h
  simp only [lf] at hl ⊢;rw [<- zaB h]
  cases hc:pcells (ev tm x) with
  | none => rw [hc] at hl; cases hl
  | some cs => rw [hc] at hl; simp only [Option.map_some,sI,Prod.mk.injEq] at hl ⊢; obtain ⟨rfl,rfl⟩:=hl; exact ⟨⟨rfl,rfl⟩,rfl⟩
 ·simp only [lf,sI,Prod.mk.injEq] at hl ⊢; obtain ⟨rfl,rfl⟩:=hl; exact ⟨⟨rfl,rfl⟩,rfl⟩
 ·simp only [MO.tmps] at h
  simp only [lf] at hl ⊢;rw [<- zcF h]
  cases hc:litP (ev tm) n xs with
  | none => rw [hc] at hl; cases hl
  | some cs => rw [hc] at hl; simp only [Option.map_some,sI,Prod.mk.injEq] at hl ⊢; obtain ⟨rfl,rfl⟩:=hl; exact ⟨⟨rfl,rfl⟩,rfl⟩
 ·simp only [MO.tmps,mem_append,or_imp,forall_and] at h
  simp only [lf] at hl ⊢;rw [<- zaB h.1,<- zaB h.2]
  split at hl
  ·split at hl
   ·rename_i hc
    rw [if_pos hc];simp only [sI,Prod.mk.injEq] at hl ⊢; obtain ⟨rfl,rfl⟩:=hl; exact ⟨⟨rfl,rfl⟩,rfl⟩
   ·cases hl
  ·cases hl
 ·simp only [MO.tmps,mem_append,or_imp,forall_and] at h
  simp only [lf] at hl ⊢;rw [<- zaB h.1,<- zaB h.2]
  split at hl
  ·split at hl
   ·split at hl
    ·rename_i hc
     rw [if_pos hc];simp only [sI,Prod.mk.injEq] at hl ⊢; obtain ⟨rfl,rfl⟩:=hl; exact ⟨⟨rfl,rfl⟩,rfl⟩
    ·cases hl
   ·cases hl
  ·cases hl
 ·simp only [lf,sI,Prod.mk.injEq] at hl ⊢; obtain ⟨rfl,rfl⟩:=hl; exact ⟨⟨rfl,rfl⟩,rfl⟩
theorem zc1 {tm tm':Nat -> PV} {g:Option (Nat × Bool)} (h:∀ t,(match g with | some (t,_) => [t] | none => []).contains t = true -> tm t = tm' t):gd g tm = gd g tm':=by
 cases g with
 | none => rfl
 | some p => obtain ⟨t,b⟩:=p; simp only [gd]; rw [h t (by simp)]
def Wrote (e:X -> PV) (mo:MOpr) (bx bx':LP PC):Prop:=(mo.shm = true /\ ∀ y ∈ mo.c,keepX e bx bx' y) \/ ∃ p o z,e (adrS mo.o) = .ref p o /\ bx' = bx.set p z /\ ∀ y ∈ mo.c,apartX e (adrS mo.o) y = true
theorem MOpr.shm_of {mo:MOpr} (h:(mo.o.isCall || mo.o.isApp) = true) (hw:mo.wr = true):mo.shm = true:=by
 unfold MOpr.wr at hw
 have:mo.o.isStore = false:=by cases ho:mo.o <;> rw [ho] at h <;> first | rfl | cases h
 rw [this,h] at hw; simpa using hw
theorem MOpr.wr_of {mo:MOpr} (h:(mo.o.isCall || mo.o.isApp) = true) (hs:mo.shm = true):mo.wr = true:=by
 unfold MOpr.wr; rw [h,hs]; simp
theorem zdl {E:Env} {mo:MOpr} {tm tm':Nat -> PV} {bx:LP PC} {nt:Nat} {live:List Nat} (h:∀ t ∈ mo.o.tmps,tm t = tm' t) {K:St -> Prop} (hp:pstep E mo K ⟨tm,bx,nt,live⟩) :
  pstep E { mo with c:=mo.keep } (fun s => ∃ v bx' nt' live',s = St.put ⟨tm',bx',nt',live'⟩ mo.d v /\ K (St.put ⟨tm,bx',nt',live'⟩ mo.d v) /\
   ((mo.o.loud = false /\ bx' = bx /\ nt' = nt /\ live' = live /\ qf (ev tm) bx mo.o = some v) \/ (mo.o.loud = true /\ (mo.wr = false -> bx' = bx \/ ∃ c,bx' = bx ++ [c]) /\ (mo.wr = true -> Wrote (ev tm) mo bx bx')))) ⟨tm',bx,nt,live⟩:=by
 have hcall:∀ f xs,pcall E f xs mo.d K ⟨tm,bx,nt,live⟩ -> mo.o.loud = true -> (mo.o.isCall || mo.o.isApp) = true -> pcall E f xs mo.d (fun s => ∃ v bx' nt' live',s = St.put ⟨tm',bx',nt',live'⟩ mo.d v /\ K (St.put ⟨tm,bx',nt',live'⟩ mo.d v) /\
   ((mo.o.loud = false /\ bx' = bx /\ nt' = nt /\ live' = live /\ qf (ev tm) bx mo.o = some v) \/ (mo.o.loud = true /\ (mo.wr = false -> bx' = bx \/ ∃ c,bx' = bx ++ [c]) /\ (mo.wr = true -> Wrote (ev tm) mo bx bx')))) ⟨tm',bx,nt,live⟩:=by
  rintro f xs ⟨args,R,h1,h2,h3⟩ hl hns;refine ⟨args,R,h1,h2,?_⟩
  rcases h3 with h3 | h3
  ·left
   intro x lv hR;obtain ⟨y,k1,k2⟩:=h3 x lv hR;exact ⟨y,k1,y,bx,nt,live,rfl,k2,.inr ⟨hl,fun _ => .inl rfl,fun h => .inl ⟨MOpr.shm_of hns h,fun y _ => zcD _ _ y⟩⟩⟩
  ·right
   intro x lv k hR hk hlt;obtain ⟨y,k1,k2,k3⟩:=h3 x lv k hR hk hlt;exact ⟨y,k1,k2,y,bx,nt + k,x.toks.map (· + nt) ++ live,rfl,k3,.inr ⟨hl,fun _ => .inl rfl,fun h => .inl ⟨MOpr.shm_of hns h,fun y _ => zcD _ _ y⟩⟩⟩
 have hcallG:∀ f xs,mo.shm = true -> pcallG E f xs mo.d mo.c K ⟨tm,bx,nt,live⟩ -> mo.o.loud = true -> (mo.o.isCall || mo.o.isApp) = true -> pcallG E f xs mo.d (keepC mo.c) (fun s => ∃ v bx' nt' live',s = St.put ⟨tm',bx',nt',live'⟩ mo.d v /\ K (St.put ⟨tm,bx',nt',live'⟩ mo.d v) /\
   ((mo.o.loud = false /\ bx' = bx /\ nt' = nt /\ live' = live /\ qf (ev tm) bx mo.o = some v) \/ (mo.o.loud = true /\ (mo.wr = false -> bx' = bx \/ ∃ c,bx' = bx ++ [c]) /\ (mo.wr = true -> Wrote (ev tm) mo bx bx')))) ⟨tm',bx,nt,live⟩:=by
  rintro f xs hs ⟨R,h1,h2⟩ hl hns;exact ⟨R,h1,fun x b n l hR => ⟨keepC_x,x,b,n,l,rfl,(h2 x b n l hR).2,.inr ⟨hl,(fun hw => by rw [MOpr.wr_of hns hs] at hw; cases hw),fun _ => .inl ⟨hs,(h2 x b n l hR).1⟩⟩⟩⟩
 obtain ⟨d,m,g,cc⟩:=mo;simp only at h hcall hcallG
 have hrest:m.isApp = false -> ((∃ v,qf (ev tm) bx m = some v /\ K (St.put ⟨tm,bx,nt,live⟩ d v)) \/ (∃ v s',lf (ev tm) ⟨tm,bx,nt,live⟩ m = some (v,s') /\ cc.all (apartX (ev tm) (adrS m)) = true /\ K (s'.put d v))) ->
   ((∃ v,qf (ev tm') bx m = some v /\ (∃ u bx' nt' live',St.put ⟨tm',bx,nt,live⟩ d v = St.put ⟨tm',bx',nt',live'⟩ d u /\ K (St.put ⟨tm,bx',nt',live'⟩ d u) /\
    ((m.loud = false /\ bx' = bx /\ nt' = nt /\ live' = live /\ qf (ev tm) bx m = some u) \/ (m.loud = true /\ (MOpr.wr ⟨d,m,g,cc⟩ = false -> bx' = bx \/ ∃ c,bx' = bx ++ [c]) /\ (MOpr.wr ⟨d,m,g,cc⟩ = true -> Wrote (ev tm) ⟨d,m,g,cc⟩ bx bx'))))) \/
    (∃ v s',lf (ev tm') ⟨tm',bx,nt,live⟩ m = some (v,s') /\ (MOpr.keep ⟨d,m,g,cc⟩).all (apartX (ev tm') (adrS m)) = true /\ (∃ u bx' nt' live',s'.put d v = St.put ⟨tm',bx',nt',live'⟩ d u /\ K (St.put ⟨tm,bx',nt',live'⟩ d u) /\
    ((m.loud = false /\ bx' = bx /\ nt' = nt /\ live' = live /\ qf (ev tm) bx m = some u) \/ (m.loud = true /\ (MOpr.wr ⟨d,m,g,cc⟩ = false -> bx' = bx \/ ∃ c,bx' = bx ++ [c]) /\ (MOpr.wr ⟨d,m,g,cc⟩ = true -> Wrote (ev tm) ⟨d,m,g,cc⟩ bx bx')))))):=by
  rintro hna (⟨v,hv,hk⟩ | ⟨v,s',hv,hap,hk⟩)
  ·left
   refine ⟨v,by rw [<- zco h]; exact hv,v,bx,nt,live,rfl,hk,.inl ⟨?_,rfl,rfl,rfl,hv⟩⟩
   cases m <;> first | rfl | (simp [qf] at hv)
  ·right
   obtain ⟨k1,k2⟩:=lf_congr h hv;refine ⟨v,_,k1,?_,v,s'.bx,s'.nt,s'.live,rfl,?_,.inr ⟨?_,fun hst => ?_,fun hst => ?_⟩⟩
   ·rcases zbI hv with ⟨x,rfl⟩ | ⟨z,rfl⟩ | ⟨n,xs,rfl⟩ | ⟨n,a,x,rfl⟩ | ⟨n,a,x,rfl⟩ | ⟨bT,bU,rfl⟩ <;> first | rfl | cases hna
   ·have:(⟨tm,s'.bx,s'.nt,s'.live⟩:St) = s':=by rw [<- k2]
    rw [this]; exact hk
   ·rcases zbI hv with ⟨x,rfl⟩ | ⟨z,rfl⟩ | ⟨n,xs,rfl⟩ | ⟨n,a,x,rfl⟩ | ⟨n,a,x,rfl⟩ | ⟨bT,bU,rfl⟩ <;> rfl
   ·rcases zbI hv with ⟨x,rfl⟩ | ⟨z,rfl⟩ | ⟨n,xs,rfl⟩ | ⟨n,a,x,rfl⟩ | ⟨n,a,x,rfl⟩ | ⟨bT,bU,rfl⟩
    ·simp only [lf] at hv
     cases hc:pcells (ev tm x) with
     | none => rw [hc] at hv; cases hv
     | some cs => rw [hc] at hv; simp only [Option.map_some,sI,Prod.mk.injEq] at hv; obtain ⟨_,rfl⟩:=hv; exact .inr ⟨cs,rfl⟩
    ·simp only [lf,sI,Prod.mk.injEq] at hv; obtain ⟨_,rfl⟩:=hv; exact .inr ⟨_,rfl⟩
    ·simp only [lf] at hv
     cases hc:litP (ev tm) n xs with
     | none => rw [hc] at hv; cases hv
     | some cs => rw [hc] at hv; simp only [Option.map_some,sI,Prod.mk.injEq] at hv; obtain ⟨_,rfl⟩:=hv; exact .inl rfl
    ·simp only [lf] at hv
     split at hv
     ·split at hv
      ·simp only [sI,Prod.mk.injEq] at hv; obtain ⟨_,rfl⟩:=hv; exact .inl rfl
      ·cases hv
     ·cases hv
    ·exact absurd hst (by simp [MOpr.wr,MO.isStore])
    ·simp only [lf,sI,Prod.mk.injEq] at hv; obtain ⟨_,rfl⟩:=hv; exact .inr ⟨_,rfl⟩
   ·rcases zbI hv with ⟨x,rfl⟩ | ⟨z,rfl⟩ | ⟨n,xs,rfl⟩ | ⟨n,a,x,rfl⟩ | ⟨n,a,x,rfl⟩ | ⟨bT,bU,rfl⟩ <;> try (exfalso; first | (cases hna; done) | (simp [MOpr.wr,MO.isStore,MO.isCall,MO.isApp] at hst; done))
    simp only [lf] at hv
    split at hv
    ·rename_i p o cs hp hcs
     split at hv
     ·split at hv
      ·simp only [sI,Prod.mk.injEq] at hv; obtain ⟨_,rfl⟩:=hv
       exact .inr ⟨p,o,_,hp,rfl,all_eq_true.1 hap⟩
      ·cases hv
     ·cases hv
    ·cases hv
 cases m with
 | call f xs =>
  simp only [pstep,MO.tmps] at hp h ⊢;rw [<- zcn h]
  exact hp.imp (fun hp => hcall f _ hp rfl rfl) fun hp => ⟨zdj hp.1,hcallG f _ hp.1 hp.2 rfl rfl⟩
 | callv x xs =>
  simp only [MO.tmps,mem_append,or_imp,forall_and] at h;simp only [pstep] at hp ⊢;obtain ⟨f,cap,h1,h2,h3⟩:=hp;rw [<- zcn h.2,<- zaB h.1]
  exact ⟨f,cap,h1,h2,h3.imp (fun hp => hcall f _ hp rfl rfl) fun hp => ⟨zdj hp.1,hcallG f _ hp.1 hp.2 rfl rfl⟩⟩
 | app n x y =>
  have h':=h;simp only [MO.tmps,mem_append,or_imp,forall_and] at h';simp only [pstep] at hp ⊢
  rcases hp with ⟨v,s',hv,hk⟩ | ⟨hs,p,len,cap,z,tk2,ds,a1,a2,a3,a4,a5,a6⟩
  ·obtain ⟨k1,k2⟩:=lf_congr h hv
   have hb:s'.bx = bx:=by
    simp only [lf] at hv
    split at hv
    ·split at hv
     ·simp only [sI,Prod.mk.injEq] at hv; obtain ⟨_,rfl⟩:=hv; rfl
     ·cases hv
    ·cases hv
   refine .inl ⟨v,_,k1,v,s'.bx,s'.nt,s'.live,rfl,?_,.inr ⟨rfl,fun _ => .inl hb,fun hst => .inl ⟨MOpr.shm_of rfl hst,fun y _ => by rw [hb]; exact zcD _ _ y⟩⟩⟩
   have:(⟨tm,s'.bx,s'.nt,s'.live⟩:St) = s':=by rw [<- k2]
   rw [this]; exact hk
  ·refine .inr ⟨zdj hs,p,len,cap,z,tk2,ds,?_,?_,a3,a4,a5,fun p' cap' bx' hA => ⟨keepC_x,_,bx',nt,live,rfl,(a6 p' cap' bx' hA).2,.inr ⟨rfl,(fun hw => by rw [MOpr.wr_of (mo:=⟨d,.app n x y,g,cc⟩) rfl hs] at hw; cases hw),fun _ => .inl ⟨hs,(a6 p' cap' bx' hA).1⟩⟩⟩⟩
   ·rw [<- zaB h'.1]; exact a1
   ·rw [<- zaB h'.2]; exact a2
 | _ => exact hrest rfl hp
def adrL:MO -> Option X
 | .load _ _ x => some x
 | _ => none
theorem qf_apart {e:X -> PV} {mo:MOpr} {bx bx':LP PC} {m:MO} {x:X} {v:PV} (hx:adrL m = some x) {e':X -> PV} (he:e x = e' x) (hw:Wrote e' mo bx bx') (_hf:∀ k,∃ g,e (.f k) = .fn g []) (hm:x ∈ mo.c) (h:qf e bx m = some v):qf e bx' m = some v:=by
 cases m <;> simp only [adrL,reduceCtorEq] at hx
 case load ag n y =>
  simp only [sI] at hx; subst hx
  rcases hw with hw | hw
  ·have hk:=hw.2 y hm
   unfold keepX at hk;rw [<- he] at hk;simp only [qf] at h ⊢
   split at h
   ·rename_i q o' hq
    rw [hq] at hk;simp only at hk;rw [hk]; exact h
   ·exact h
   ·cases h
  obtain ⟨p,o,z,h1,rfl,h3⟩:=hw;have h4:=h3 y hm;simp only [apartX,h1] at h4;simp only [qf] at h ⊢;rw [he] at h ⊢
  split at h
  ·rename_i q o' hq
   rw [hq] at h4
   have:q ≠ p:=by simpa using h4
   rw [getElem?_set_ne (Ne.symm this)]; exact h
  ·exact h
  ·cases h
theorem qf_nobx {e:X -> PV} {bx bx':LP PC} {m:MO} (h:m.isLoad = false):qf e bx m = qf e bx' m:=by
 cases m <;> first | rfl | (cases h)
theorem qf_ext {e:X -> PV} {bx bx':LP PC} {m:MO} {v:PV} (h:qf e bx m = some v) (hb:bx' = bx \/ ∃ c,bx' = bx ++ [c]):qf e bx' m = some v:=by
 rcases hb with rfl | ⟨c,rfl⟩
 ·exact h
 ·cases m with
  | load ag n x =>
   simp only [qf] at h ⊢
   split at h
   ·rename_i p o hx
    split at h
    ·rename_i cs hcs
     have hlt:p < bx.length:=by
      rcases Nat.lt_or_ge p bx.length with h' | h'
      ·exact h'
      ·simp [getElem?_eq_none h'] at hcs
     rw [getElem?_append_left hlt,hcs]; exact h
    ·cases h
   ·exact h
   ·cases h
  | _ => exact h
end
section
def edgesOf (o:Oper):List Nat:=(o.after.toList.filter (Region.binds .any)).map (·.on)
def befs (es:List (List Nat)):List (List Nat):=es.foldl (fun acc e => acc ++ [(e ++ e.flatMap fun j => acc.getD j []).eraseDups]) []
def befOf (bs:List (List Nat)) (i:Nat):List Nat:=bs.getD i []
structure Canon (ml:List MOpr) (es bs:List (List Nat)) (ord:List Nat):Prop where
 len:es.length = ml.length
 blen:bs.length = ml.length
 nodup:ord.Nodup
 mem:∀ i,i ∈ ord ↔ i < ml.length
 acyc:∀ i e,i < ml.length -> e ∈ es.getD i [] -> e < i
 bef:∀ i j,i < ml.length -> j ∈ befOf bs i -> j ∈ es.getD i [] \/ ∃ e ∈ es.getD i [],j ∈ befOf bs e
 dst:∀ (i j:Nat) (a b:MOpr) (t:Nat),ml[i]? = some a -> ml[j]? = some b -> a.d = some t -> b.d = some t -> i = j
 touch:∀ (i j:Nat) (a b:MOpr) (t:Nat),ml[i]? = some a -> ml[j]? = some b -> a.d = some t -> t ∈ b.tmps -> i ∈ befOf bs j \/ j ∈ befOf bs i
 ord':∀ pre i post,ord = pre ++ i :: post -> ∀ j ∈ befOf bs i,j ∈ pre
 loud:∀ (i j:Nat) (a b:MOpr),ml[i]? = some a -> ml[j]? = some b -> a.o.loud = true -> b.o.loud = true -> i ≠ j -> i ∈ befOf bs j \/ j ∈ befOf bs i
 asap:∀ (pre:List Nat) (i:Nat) (post:List Nat) (a:MOpr),ord = pre ++ i :: post -> ml[i]? = some a -> a.o.loud = false -> ∀ (j:Nat) (b:MOpr),j ∈ pre -> ml[j]? = some b -> b.o.loud = true -> j ∈ befOf bs i
 store:∀ (i j:Nat) (a b:MOpr),ml[i]? = some a -> ml[j]? = some b -> a.o.isLoad = true -> b.wr = true -> (i ∈ befOf bs j \/ j ∈ befOf bs i) \/ ∃ x,adrL a.o = some x /\ x ∈ b.c /\ ∀ t ∈ x.tmps,∀ (k:Nat) (mk:MOpr),ml[k]? = some mk -> mk.d = some t -> k ∈ befOf bs i
 self:∀ i,i < ml.length -> i ∉ befOf bs i
section
variable {ml:List MOpr} {es bs:List (List Nat)} {ord:List Nat} (hc:Canon ml es bs ord)
include hc
theorem Canon.closed (L:Nat -> Prop) (hL:∀ i,i < ml.length -> L i -> ∀ e ∈ es.getD i [],L e):∀ (i:Nat),i < ml.length -> (∀ e ∈ es.getD i [],L e) -> ∀ j ∈ befOf bs i,L j:=by
 intro i
 induction i using Nat.strongRecOn with
 | _ i ih =>
  intro hi he j hj
  rcases hc.bef i j hi hj with h | ⟨e,he',h⟩
  ·exact he j h
  ·have hlt:=hc.acyc i e hi he'
   exact ih e hlt (by omega) (hL e (by omega) (he e he')) j h
end
def wr (ml:List MOpr) (L:Nat -> Prop) (t:Nat):Prop:=∃ (i:Nat) (m:MOpr),ml[i]? = some m /\ m.d = some t /\ L i
open Classical in
noncomputable def mix (ml:List MOpr) (L:Nat -> Prop) (f g:Nat -> PV):Nat -> PV:=fun t => if wr ml L t then f t else g t
def Done (ml:List MOpr) (bs:List (List Nat)) (tm0 tm:Nat -> PV) (bx:LP PC) (j:Nat):Prop :=
 ∀ (m:MOpr),ml[j]? = some m -> m.o.loud = false -> ∃ v,(∀ t,m.d = some t -> tm t = v) /\
  ((gd m.g (mix ml (· ∈ befOf bs j) tm tm0) = some true /\ qf (ev (mix ml (· ∈ befOf bs j) tm tm0)) bx m.o = some v) \/ (gd m.g (mix ml (· ∈ befOf bs j) tm tm0) = some false /\ v = .tup []))
structure Sim (E:Env) (B:Base) (ml:List MOpr) (es bs:List (List Nat)) (ord:List Nat) (K:St -> Prop) (tm0:Nat -> PV) (L:Nat -> Prop) (pre rest:List Nat) (s:St):Prop where
 split:ord = pre ++ rest
 head:∀ (i:Nat) (r:List Nat) (m:MOpr),rest = i :: r -> ml[i]? = some m -> m.o.loud = true
 run:po E (rest.filterMap (ml[·]?)) K s
 lt:∀ i,L i -> i < ml.length
 closed:∀ i,i < ml.length -> L i -> ∀ e ∈ es.getD i [],L e
 sub:∀ i,L i -> i ∈ pre
 loud:∀ (i:Nat) (m:MOpr),ml[i]? = some m -> m.o.loud = true -> i ∈ pre -> L i
 fresh:∀ t,¬ wr ml (· ∈ pre) t -> s.tm t = tm0 t
 done:∀ j ∈ pre,¬ L j -> Done ml bs tm0 s.tm s.bx j
section
variable {E:Env} {B:Base} {ml:List MOpr} {es bs:List (List Nat)} {ord:List Nat} {K:St -> Prop} {tm0:Nat -> PV}
theorem mix_eq (hc:Canon ml es bs ord) {L:Nat -> Prop} (hLlt:∀ i,L i -> i < ml.length) (hLcl:∀ i,i < ml.length -> L i -> ∀ e ∈ es.getD i [],L e) {j:Nat} {m:MOpr} (hj:ml[j]? = some m) (hnot:¬ L j) (hready:∀ e ∈ es.getD j [],L e) (f g:Nat -> PV) :
  ∀ t ∈ m.tmps,mix ml (· ∈ befOf bs j) f g t = mix ml L f g t:=by
 intro t ht
 have hjl:j < ml.length:=by
  rcases Nat.lt_or_ge j ml.length with h | h
  ·exact h
  ·simp [getElem?_eq_none h] at hj
 have hcl:=hc.closed L hLcl;by_cases h1:wr ml (· ∈ befOf bs j) t
 ·have h2:wr ml L t:=by
   obtain ⟨i,mi,a1,a2,a3⟩:=h1;exact ⟨i,mi,a1,a2,hcl j hjl hready i a3⟩
  simp [mix,h1,h2]
 ·have h2:¬ wr ml L t:=by
   rintro ⟨i,mi,a1,a2,a3⟩
   rcases hc.touch i j mi m t a1 hj a2 ht with h | h
   ·exact h1 ⟨i,mi,a1,a2,h⟩
   ·exact hnot (hcl i (hLlt i a3) (hLcl i (hLlt i a3) a3) j h)
  simp [mix,h1,h2]
theorem quiets (hc:Canon ml es bs ord) {L:Nat -> Prop}:∀ (rest pre:List Nat) (s:St),ord = pre ++ rest -> po E (rest.filterMap (ml[·]?)) K s -> (∀ i,L i -> i < ml.length) -> (∀ i,i < ml.length -> L i -> ∀ e ∈ es.getD i [],L e) -> (∀ i,L i -> i ∈ pre) ->
  (∀ (i:Nat) (m:MOpr),ml[i]? = some m -> m.o.loud = true -> i ∈ pre -> L i) -> (∀ t,¬ wr ml (· ∈ pre) t -> s.tm t = tm0 t) -> (∀ j ∈ pre,¬ L j -> Done ml bs tm0 s.tm s.bx j) ->
  ∃ pre' rest' s',Sim E B ml es bs ord K tm0 L pre' rest' s' /\ s'.bx = s.bx /\ s'.nt = s.nt /\ s'.live = s.live /\ (∀ t,wr ml (· ∈ pre) t -> s'.tm t = s.tm t):=by
 intro rest
 induction rest with
 | nil =>
  intro pre s h1 h2 h3 h4 h5 h6 h7 h8
  exact ⟨pre,[],s,⟨h1,(fun i r m h => by cases h),h2,h3,h4,h5,h6,h7,h8⟩,rfl,rfl,rfl,fun _ _ => rfl⟩
 | cons i rest ih =>
  intro pre s h1 h2 h3 h4 h5 h6 h7 h8;have him:i ∈ ord:=by rw [h1]; simp
  have hil:i < ml.length:=(hc.mem i).1 him;have hmi:ml[i]? = some ml[i]:=getElem?_eq_getElem hil;by_cases hloud:ml[i].o.loud = true
  ·exact ⟨pre,i :: rest,s,⟨h1,fun i' r m h hm => by simp only [cons.injEq] at h; obtain ⟨rfl,rfl⟩:=h; rw [hmi] at hm; simp only [sI] at hm; subst hm; exact hloud,h2,h3,h4,h5,h6,h7,h8⟩,rfl,rfl,rfl,fun _ _ => rfl⟩
  ·have hq:ml[i].o.loud = false:=by simpa using hloud
   have hnd:=hc.nodup;rw [h1] at hnd
   have hipre:i ∉ pre:=fun h => by
    have:=(nodup_append.1 hnd).2.2 i h i (by simp)
    exact this rfl
   have hiL:¬ L i:=fun h => hipre (h5 i h)
   simp only [filterMap_cons,hmi] at h2;obtain ⟨g,hg,hrun⟩:=h2
   -- what i mentions is as the canonical order has it
   have hmix:∀ t ∈ ml[i].tmps,s.tm t = mix ml (· ∈ befOf bs i) s.tm tm0 t:=by
    intro t ht;by_cases hw:wr ml (· ∈ befOf bs i) t
    ·simp [mix,hw]
    ·simp only [mix,hw,if_false]
     refine h7 t ?_;rintro ⟨k,mk,a1,a2,a3⟩
     rcases hc.touch k i mk ml[i] t a1 hmi a2 ht with h | h
     ·exact hw ⟨k,mk,a1,a2,h⟩
     ·obtain ⟨p1,p2,hp⟩:=append_of_mem a3
      have:=hc.ord' p1 k (p2 ++ i :: rest) (by rw [h1,hp]; simp) i h
      exact hipre (by rw [hp]; simp [this])
   have hdi:∀ t,ml[i].d = some t -> ¬ wr ml (· ∈ pre) t:=by
    rintro t ht ⟨k,mk,a1,a2,a3⟩
    have:=hc.dst k i mk ml[i] t a1 hmi a2 ht
    subst this; exact hipre a3
   -- the step
   have step:∃ v,po E (rest.filterMap (ml[·]?)) K (s.put ml[i].d v) /\ ((gd ml[i].g s.tm = some true /\ qf (ev s.tm) s.bx ml[i].o = some v) \/ (gd ml[i].g s.tm = some false /\ v = .tup [])):=by
    rcases hrun with ⟨rfl,hrun⟩ | ⟨rfl,hrun⟩
    ·generalize hm:ml[i] = m at *
     have hno:∀ x,lf (ev s.tm) s m.o ≠ some x:=by
      intro x hx
      rcases zbI hx with ⟨x,e⟩ | ⟨z,e⟩ | ⟨n,xs,e⟩ | ⟨n,a,x,e⟩ | ⟨n,a,x,e⟩ | ⟨bT,bU,e⟩ <;> rw [e] at hq <;> cases hq
     have:∃ v,qf (ev s.tm) s.bx m.o = some v /\ po E (rest.filterMap (ml[·]?)) K (s.put m.d v):=by
      unfold pstep at hrun
      split at hrun
      ·rename_i e; rw [e] at hq; cases hq
      ·rename_i e; rw [e] at hq; cases hq
      ·rename_i e; rw [e] at hq; cases hq
      ·rcases hrun with h | ⟨v,s',hv,_,_⟩
       ·exact h
       ·exact absurd hv (hno _)
     obtain ⟨v,hv,hk⟩:=this;exact ⟨v,hk,.inl ⟨hg,hv⟩⟩
    ·exact ⟨.tup [],hrun,.inr ⟨hg,rfl⟩⟩
   obtain ⟨v,hk,hv⟩:=step
   have hput:∀ t,wr ml (· ∈ pre) t -> (s.put ml[i].d v).tm t = s.tm t:=by
    intro t ht
    cases hd:ml[i].d with
    | none => rfl
    | some d =>
     simp only [St.put];rw [if_neg (fun h => by subst h; exact hdi _ hd ht)]
   have hbx:(s.put ml[i].d v).bx = s.bx /\ (s.put ml[i].d v).nt = s.nt /\ (s.put ml[i].d v).live = s.live:=by cases ml[i].d <;> exact ⟨rfl,rfl,rfl⟩
   have hmono:∀ j,(∀ k ∈ befOf bs j,k ∈ pre) -> ∀ t,mix ml (· ∈ befOf bs j) (s.put ml[i].d v).tm tm0 t = mix ml (· ∈ befOf bs j) s.tm tm0 t:=by
    intro j hj t;by_cases hw:wr ml (· ∈ befOf bs j) t
    ·simp only [mix,hw,if_true]
     refine hput t ?_;obtain ⟨k,mk,a1,a2,a3⟩:=hw;exact ⟨k,mk,a1,a2,hj k a3⟩
    ·simp only [mix,hw,if_false]
   have hbi:∀ k ∈ befOf bs i,k ∈ pre:=hc.ord' pre i rest h1
   obtain ⟨pre',rest',s',hS,e1,e2,e3,e4⟩:=ih (pre ++ [i]) (s.put ml[i].d v) (by rw [h1]; simp) hk h3 h4 (fun k hk => by simp [h5 k hk]) (fun k m hm hl hk => by
     rcases mem_append.1 hk with hk | hk
     ·exact h6 k m hm hl hk
     ·rw [mem_singleton] at hk; subst hk; rw [hmi] at hm; simp only [sI] at hm; subst hm; rw [hq] at hl; cases hl)
    (fun t ht => by
     have hnp:¬ wr ml (· ∈ pre) t:=fun ⟨k,mk,a1,a2,a3⟩ => ht ⟨k,mk,a1,a2,by simp [a3]⟩
     cases hd:ml[i].d with
     | none => exact h7 t hnp
     | some d =>
      simp only [St.put];rw [if_neg (fun h => ht ⟨i,ml[i],hmi,by rw [hd,h],by simp⟩)];exact h7 t hnp)
    (fun j hj hjL => by
     rcases mem_append.1 hj with hj | hj
     ·-- an earlier one
      obtain ⟨p1,p2,hp⟩:=append_of_mem hj
      have hbj:∀ k ∈ befOf bs j,k ∈ pre:=fun k hk => by
       have:=hc.ord' p1 j (p2 ++ i :: rest) (by rw [h1,hp]; simp) k hk
       rw [hp]; simp [this]
      intro m hm hl;obtain ⟨u,hu1,hu2⟩:=h8 j hj hjL m hm hl;have hmm:=funext (hmono j hbj);refine ⟨u,fun t ht => ?_,?_⟩
      ·rw [hput t ⟨j,m,hm,ht,hj⟩]; exact hu1 t ht
      ·rw [hmm,hbx.1]; exact hu2
     ·rw [mem_singleton] at hj; subst hj
      intro m hm hl;rw [hmi] at hm; simp only [sI] at hm; subst hm
      have hmm:=funext (hmono j hbi);refine ⟨v,fun t ht => ?_,?_⟩
      ·rw [ht]; simp [St.put]
      ·rw [hmm,hbx.1]
       have hgc:gd ml[j].g s.tm = gd ml[j].g (mix ml (· ∈ befOf bs j) s.tm tm0):=zc1 fun t ht => hmix t (by
        unfold MOpr.tmps; exact mem_append.2 (.inr (by simpa using ht)))
       have hqc:qf (ev s.tm) s.bx ml[j].o = qf (ev (mix ml (· ∈ befOf bs j) s.tm tm0)) s.bx ml[j].o:=zco fun t ht => hmix t (by unfold MOpr.tmps; exact mem_append.2 (.inl ht))
       rw [<- hgc,<- hqc]; exact hv)
   exact ⟨pre',rest',s',hS,e1.trans hbx.1,e2.trans hbx.2.1,e3.trans hbx.2.2,fun t ht => by
    rw [e4 t (by obtain ⟨k,mk,a1,a2,a3⟩:=ht; exact ⟨k,mk,a1,a2,by simp [a3]⟩)]; exact hput t ht⟩
end
end
end Go.Proofs.YtaofmfkcfmcmpaaGreatDoor
