/-
  Votes and headers as plain data, and their tests.
-/
import Derived.Test.YtnmgecaflildoaaNum1
namespace Go.Proofs.Ytnmgecaflildoaa
open Go.RowKit

structure VoteT where
  h : Int
  r : Int
  s : Int
  id : List UInt8
  v : Int
def VoteT.val (x : VoteT) : Value := .agg #[.int .i64 x.h, .int .i64 x.r, .int .i64 x.s, .string (S x.id), .int .i64 x.v]
structure HeadT where
  h : Int
  t : Int
  last : List UInt8
  vals : List UInt8
  next : List UInt8
  data : List UInt8
def HeadT.val (x : HeadT) : Value := .agg #[.int .i64 x.h, .int .i64 x.t, .string (S x.last), .string (S x.vals), .string (S x.next), .string (S x.data)]
def VoteT.ok (x : VoteT) : Prop := -9223372036854775808 ≤ x.h ∧ x.h ≤ 9223372036854775807 ∧ -9223372036854775808 ≤ x.r ∧ x.r ≤ 9223372036854775807 ∧ -9223372036854775808 ≤ x.s ∧ x.s ≤ 9223372036854775807 ∧ x.id.length ≤ 9223372036854775807 ∧ -9223372036854775808 ≤ x.v ∧ x.v ≤ 9223372036854775807
def HeadT.ok (x : HeadT) : Prop := -9223372036854775808 ≤ x.h ∧ x.h ≤ 9223372036854775807 ∧ -9223372036854775808 ≤ x.t ∧ x.t ≤ 9223372036854775807 ∧ x.last.length ≤ 9223372036854775807 ∧ x.vals.length ≤ 9223372036854775807 ∧ x.next.length ≤ 9223372036854775807 ∧ x.data.length ≤ 9223372036854775807
def isIdB (id : List UInt8) : Bool := id.length == 8 || id.length == 0
def voteOkB (x : VoteT) : Bool := inB x.h 1 1000000 && inB x.r 0 1000 && inB x.s 1 2 && isIdB x.id && inB x.v 1 99
def headOkB (x : HeadT) : Bool := inB x.h 1 1000000 && inB x.t 0 1000000 && x.vals.length == 8 && x.next.length == 8 && (x.last.length == if x.h = 1 then 0 else 8) && decide (x.data.length ≤ 20)
end Go.Proofs.Ytnmgecaflildoaa
