/- The evaluator, part 21. -/
import Derived.Test.YtbjadgggpkbjmaaGreatEv20
/- The machine: how a cut state is written. -/
namespace Go.Ab.Cut
open Go.Ab
abbrev vE : T Value := .nil
abbrev vL (v : Value) : T Value := .node .nil (some v) .nil
abbrev vS (l : T Value) (v : Value) (r : T Value) : T Value := .node l (some v) r
abbrev vO (l r : T Value) : T Value := .node l none r
abbrev hE : T AObj := .nil
abbrev hL (v : AObj) : T AObj := .node .nil (some v) .nil
abbrev hS (l : T AObj) (v : AObj) (r : T AObj) : T AObj := .node l (some v) r
abbrev hO (l r : T AObj) : T AObj := .node l none r
abbrev i (n : Nat) : Value := .int .i64 (Int.ofNat n)
abbrev ik (k : IntKind) (n : Nat) : Value := .int k (Int.ofNat n)
abbrev jk (k : IntKind) (n : Nat) : Value := .int k (Int.negSucc n)
abbrev bt : Value := .bool true
abbrev bf : Value := .bool false
abbrev by8 (l : List Nat) : ByteArray := ⟨(l.map UInt8.ofNat).toArray⟩
abbrev st (l : List Nat) : Value := .string (by8 l)
abbrev p (b o : Nat) : Value := .pointer (some ⟨b, o, none⟩)
abbrev pn : Value := .pointer none
abbrev s (b o n c : Nat) : Value := .slice (some ⟨b, o, none⟩) n c
abbrev sn (n c : Nat) : Value := .slice none n c
abbrev mn : Value := .map none
abbrev mp (r : Nat) : Value := .map (some r)
abbrev fn (f : Nat) (a b : List Value) : Value := .func (.func f) a.toArray b.toArray
abbrev yl (n : Nat) (a b : List Value) : Value := .func (.yield n) a.toArray b.toArray
abbrev nf : Value := .nilFunc
abbrev fc (t : TypeId) (v : Value) : Value := .iface t v
abbrev ni : Value := .nilIface
abbrev ag (l : List Value) : Value := .agg l.toArray
abbrev tu (l : List Value) : Value := .tuple l.toArray
abbrev am : Value := .complex .f64 0 0
abbrev c (e : TypeId) (n : Nat) (x ro : Bool) (kin : List Nat) (c : T Value) : AObj := .cells e n x ro kin c
abbrev de : AObj := .dead
abbrev en (k v : Value) (b : Nat) : MapEntry := ⟨k, v, b⟩
abbrev om (l : List MapEntry) (ck : Nat) : AObj := .obj (.map l.toArray ck)
abbrev oi (m n : Nat) (seen : List Nat) (st : Nat) : AObj := .obj (.mapIter (some m) n seen.toArray st)
abbrev oj (n : Nat) (seen : List Nat) (st : Nat) : AObj := .obj (.mapIter none n seen.toArray st)
abbrev os (l : List Nat) (n : Nat) : AObj := .obj (.stringIter (by8 l) n)
abbrev od : AObj := .obj (.deferred none)
abbrev oe : AObj := .obj (.deferred (some []))
def asgOf : ICode → Code
  | .range _ _ x _ => x
  | _ => .skip
def bodOf : ICode → Code
  | .range _ _ _ y => y
  | _ => .skip
abbrev lo (c : ICode) (l : List Value) (ps : List Nat) (st : LoopState) (pd : Option Code) (d : Nat) : AObj := .obj (.loop ⟨st, pd, 0, l.toArray, ps.toArray, asgOf c, bodOf c, d⟩)
end Go.Ab.Cut
