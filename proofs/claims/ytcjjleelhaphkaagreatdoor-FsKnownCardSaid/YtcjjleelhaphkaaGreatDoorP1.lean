/-
  Library functions, told by what they do: maps.Keys with slices.Sorted, maps.Clone.
-/
import Derived.Test.YtcjjleelhaphkaaGreatDoorC9
set_option linter.unusedVariables false
set_option linter.unusedSimpArgs false
namespace Go.Am

/-- A text's place in a rising list. -/
def insS (s : List UInt8) : List (List UInt8) → List (List UInt8)
  | [] => [s]
  | t :: l => match Op.bytesLess t s with
    | true => t :: insS s l
    | false => s :: t :: l

def sortS : List (List UInt8) → List (List UInt8)
  | [] => []
  | s :: l => insS s (sortS l)

def keysOf : List (AV × AV × Nat) → Option (List (List UInt8))
  | [] => some []
  | (.str s, _, _) :: l => match keysOf l with
    | some ks => some (s :: ks)
    | none => none
  | _ :: _ => none

/-- What maps.Keys hands back is a function value over a cell that holds the map. -/
def keysP (iter : Nat) (_ : Env) (args : List AV) (h : AHeap) : Option (AV × AHeap) :=
  match args with
  | [m] => match m with
    | .nilmap => some (.func iter [] [.ptr h.next 0], h.add (.keys m))
    | .map _ => some (.func iter [] [.ptr h.next 0], h.add (.keys m))
    | _ => none
  | _ => none

/-- Stamps stand below the clock, and no two are alike; nor are two keys. -/
def stampB (clock : Nat) : List (AV × AV × Nat) → Bool
  | [] => true
  | (k, _, b) :: es => Nat.blt b clock && es.all (fun e => !AV.beq e.1 k && !Nat.beq e.2.2 b) && stampB clock es

def sortedP (iters : List Nat) (_ : Env) (args : List AV) (h : AHeap) : Option (AV × AHeap) :=
  match args with
  | [.func f [] [.ptr o 0]] =>
    bif iters.contains f then
      match h.get o with
      | some (.keys .nilmap) => some (.nilslice, h)
      | some (.keys (.map m)) => match h.get m with
        | some (.map es clock) => match keysOf es with
          | some [] => some (.nilslice, h)
          | some (k :: ks) => bif stampB clock es && Nat.blt (k :: ks).length 1000000000 && (k :: ks).all (fun s => Nat.blt s.length 1000000000000) then some (.slice h.next 0 (k :: ks).length 1, h.add (.cells ((sortS (k :: ks)).map .str) true)) else none
          | none => none
        | _ => none
      | _ => none
    else none
  | _ => none

/-- maps.Clone: entries, stamps and clock are the old one's. -/
def cloneP (_ : Env) (args : List AV) (h : AHeap) : Option (AV × AHeap) :=
  match args with
  | [.nilmap] => some (.nilmap, h)
  | [.map o] => match h.get o with
    | some (.map es clock) => some (.map h.next, h.add (.map es clock))
    | _ => none
  | _ => none

end Go.Am
