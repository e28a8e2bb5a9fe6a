/- slices.Sorted over maps.Keys, as a call of the evaluator. -/
import Derived.Test.YtepdflohpondbaaTxnTab
import Derived.Test.YtepdflohpondbaaFwL2
set_option linter.unusedSimpArgs false
set_option linter.unusedVariables false
namespace Go.Fw.Sy.Tx

/-- The number of a key. -/
def keyI : AV → Option Int
  | .int .i64 n => if -9223372036854775808 ≤ n ∧ n ≤ 9223372036854775807 then some n else none
  | _ => none
/-- Entries in order. -/
def stampsOk (es : List (AV × AV × Nat)) (clock : Nat) (ks : List Int) : Bool :=
  es.all (fun e => Nat.blt e.2.2 clock) && (decide (es.map (·.2.2)).Nodup && (decide ks.Nodup && Nat.ble es.length 1000000))
def insI (a : Int) : List Int → List Int
  | [] => [a]
  | b :: l => if a ≤ b then a :: b :: l else b :: insI a l
def sortI : List Int → List Int
  | [] => []
  | a :: l => insI a (sortI l)
def sortK (args : List AV) (h : AHeap) (n : Nat) : Option (AV × AHeap × Nat) :=
  match args with
  | [.func (.func 29) [] [.ptr b 0]] => match h b with
    | some (.cells (.map m :: _) _) => match h m with
      | some (.map es clock) => match es.mapM (fun e => keyI e.1) with
        | some ks => if stampsOk es clock ks then match sortI ks with
            | [] => some (.vsl 0 [] (some 0), h, n)
            | a :: l => some (.sl n 0 (l.length + 1) none 1, upd h n (some (.cells ((a :: l).map fun z => .int .i64 z) false)), n + 1)
          else none
        | none => none
      | _ => none
    | _ => none
  | _ => none
def K0 : CallK := addK noK 16 sortK
def KT (d : Nat) : CallK := callsB K0 tbl 2000 d
end Go.Fw.Sy.Tx
